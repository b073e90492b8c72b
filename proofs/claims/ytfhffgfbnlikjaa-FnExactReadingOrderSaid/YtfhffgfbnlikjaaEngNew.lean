import Derived.Test.YtfhffgfbnlikjaaEngBin
import Derived.Lib.ConvBytes
namespace Go.Eng
set_option linter.unusedVariables false
set_option linter.unusedSimpArgs false
variable {P : Program} {X : Nat → Prop} {own : Nat → Prop} {w : World} {ρ : RM}
theorem cells_ok {v : AV} {u : Value} (h : Rep own w ρ v u) (hf : v.cells.all AV.flat = true) : kHx own w ρ v.cells u.cells := by
  cases h with
  | agg hf' hn hr => exact ⟨hn, hr⟩
  | @sc _ u hu =>
    have e : u.cells = #[u] := by cases u <;> simp [Value.oneCell'] at hu <;> rfl
    rw [e]
    refine ⟨rfl, fun i c v h1 h2 => ?_⟩
    match i with
    | 0 => simp [AV.cells] at h1 h2; subst h1 h2; exact .sc hu
    | i + 1 => simp [AV.cells] at h1
  | top => simp [AV.cells, AV.flat] at hf
  | tup => simp [AV.cells, AV.flat] at hf
  | ptr a b c => exact ⟨rfl, fun i c v h1 h2 => by
      match i with
      | 0 => simp [AV.cells, Value.cells] at h1 h2; subst h1 h2; exact .ptr a b (by assumption)
      | i + 1 => simp [AV.cells] at h1⟩
  | sl a b c => exact ⟨rfl, fun i c v h1 h2 => by
      match i with
      | 0 => simp [AV.cells, Value.cells] at h1 h2; subst h1 h2; exact .sl a b (by assumption)
      | i + 1 => simp [AV.cells] at h1⟩
  | fs a b c d e f => exact ⟨rfl, fun i c v h1 h2 => by
      match i with
      | 0 => simp [AV.cells, Value.cells] at h1 h2; subst h1 h2; exact .fs a b (by assumption) d e f
      | i + 1 => simp [AV.cells] at h1⟩
  | fptr a b c d => exact ⟨rfl, fun i c v h1 h2 => by
      match i with
      | 0 => simp [AV.cells, Value.cells] at h1 h2; subst h1 h2; exact .fptr a b (by assumption) d
      | i + 1 => simp [AV.cells] at h1⟩
  | fn a b => exact ⟨rfl, fun i c v h1 h2 => by
      match i with
      | 0 => simp [AV.cells, Value.cells] at h1 h2; subst h1 h2; exact .fn a b
      | i + 1 => simp [AV.cells] at h1⟩
theorem foldl_set (off : Nat) : ∀ (vs : List Value) (k : Nat) (cs : Array Value), off + k + vs.length ≤ cs.size →
    ((vs.zipIdx k).foldl (fun cs (c, j) => cs.setIfInBounds (off + j) c) cs).size = cs.size ∧
    ∀ x, ((vs.zipIdx k).foldl (fun cs (c, j) => cs.setIfInBounds (off + j) c) cs)[x]? = if off + k ≤ x ∧ x < off + k + vs.length then vs[x - (off + k)]? else cs[x]?
  | [], k, cs, _ => ⟨rfl, fun x => by simp; intro h1 h2; omega⟩
  | v :: vs, k, cs, h => by
    simp only [List.length_cons] at h
    obtain ⟨h1, h2⟩ := foldl_set off vs (k + 1) (cs.setIfInBounds (off + k) v) (by simp; omega)
    simp only [List.zipIdx_cons, List.foldl_cons]
    refine ⟨by rw [h1]; simp, fun x => ?_⟩
    rw [h2 x]
    simp only [List.length_cons]
    by_cases e : x = off + k
    · subst e
      rw [if_neg (by omega), if_pos (by omega), Array.getElem?_setIfInBounds, if_pos rfl, if_pos (by omega)]
      simp
    · by_cases e2 : off + k + 1 ≤ x ∧ x < off + k + 1 + vs.length
      · rw [if_pos (by omega), if_pos (by omega)]
        rw [show x - (off + k) = (x - (off + (k + 1))) + 1 by omega]
        simp
      · rw [if_neg (by omega), if_neg (by omega)]
        rw [Array.getElem?_setIfInBounds, if_neg (by omega)]
theorem splice_len {row cs : List AV} {j : Nat} (h : j + cs.length ≤ row.length) : (kBe row j cs).length = row.length := by
  unfold kBe; simp; omega
theorem splice_get {row cs : List AV} {j : Nat} (h : j + cs.length ≤ row.length) (x : Nat) : (kBe row j cs)[x]? = if j ≤ x ∧ x < j + cs.length then cs[x - j]? else row[x]? := by
  unfold kBe
  by_cases h1 : x < j
  · rw [if_neg (by omega), List.append_assoc, List.getElem?_append_left (by simp; omega), List.getElem?_take, if_pos h1]
  · by_cases h2 : x < j + cs.length
    · rw [if_pos (by omega), List.append_assoc, List.getElem?_append_right (by simp; omega), List.getElem?_append_left (by simp; omega)]
      congr 1
      simp
      omega
    · rw [if_neg (by omega), List.getElem?_append_right (by simp; omega), List.getElem?_drop]
      congr 1
      simp
      omega
theorem splice_flat {row cs : List AV} {j : Nat} (h1 : row.all AV.flat = true) (h2 : cs.all AV.flat = true) : (kBe row j cs).all AV.flat = true := by
  unfold kBe
  rw [List.all_eq_true] at *
  intro x hx
  simp only [List.mem_append] at hx
  rcases hx with (hx | hx) | hx
  · exact h1 x (List.mem_of_mem_take hx)
  · exact h2 x hx
  · exact h1 x (List.mem_of_mem_drop hx)
theorem fill_ok {pl : Nat → Option (Nat × Nat)} {tm : TM} {r : Operand → Value} : ∀ (parts : List (Nat × Operand)) (ps : List (Nat × Nat × AV)) (cs cs' : List AV) (vs : Array Value),
    partsOf pl tm parts = some ps → aFill cs ps = some cs' → kHx own w ρ cs vs → cs.all AV.flat = true → (∀ p ∈ parts, Rep own w ρ (ev tm p.2) (r p.2)) →
    ∃ vs', Instr.fill pl vs (parts.map fun p => (p.1, r p.2)) = some vs' ∧ kHx own w ρ cs' vs' ∧ cs'.all AV.flat = true
  | [], ps, cs, cs', vs, h1, h2, hc, hf, _ => by
    simp [partsOf] at h1
    subst h1
    simp [aFill] at h2
    subst h2
    exact ⟨vs, by simp [Instr.fill], hc, hf⟩
  | (i, x) :: parts, ps, cs, cs', vs, h1, h2, hc, hf, hr => by
    simp only [partsOf] at h1
    split at h1
    · rename_i off s hpl
      split at h1
      · rename_i l hl
        cases h1
        simp only [aFill] at h2
        split at h2
        · rename_i hq
          obtain ⟨q1, q2, q3⟩ := hq
          have hu := cells_ok (hr (i, x) (by simp)) q3
          have hus : (r x).cells.size = s := by rw [hu.1, q1]
          obtain ⟨g1, g2⟩ := foldl_set off (r x).cells.toList 0 vs (by have := hc.1; simp; omega)
          have hfold : (r x).cells.zipIdx.foldl (fun cs (c, j) => cs.setIfInBounds (off + j) c) vs = ((r x).cells.toList.zipIdx 0).foldl (fun cs (c, j) => cs.setIfInBounds (off + j) c) vs := by
            rw [← Array.foldl_toList, Array.toList_zipIdx]
          have hC : kHx own w ρ (kBe cs off (ev tm x).cells) ((r x).cells.zipIdx.foldl (fun cs (c, j) => cs.setIfInBounds (off + j) c) vs) := by
            rw [hfold]
            refine ⟨by rw [g1, splice_len (by omega), hc.1], fun y c v e1 e2 => ?_⟩
            rw [splice_get (by omega)] at e1
            rw [g2] at e2
            simp only [Nat.add_zero, Array.length_toList, Array.getElem?_toList] at e2
            rw [hus] at e2
            rw [q1] at e1
            split at e1
            · rename_i hb
              rw [if_pos hb] at e2
              exact hu.2 _ c v e1 e2
            · rename_i hb
              rw [if_neg hb] at e2
              exact hc.2 _ c v e1 e2
          obtain ⟨vs', f1, f2, f3⟩ := fill_ok parts l (kBe cs off (ev tm x).cells) cs' _ hl h2 hC (splice_flat hf q3) (fun p hp => hr p (by simp [hp]))
          refine ⟨vs', ?_, f2, f3⟩
          simp only [List.map_cons, Instr.fill, hpl, hus]
          rw [if_neg (by have := hc.1; simp; omega)]
          exact f1
        · cases h2
      · cases h1
    · cases h1
theorem zcells {z : List Value} (h : ∀ c ∈ z, c.oneCell' = true) : kHx own w ρ (z.map .sc) z.toArray ∧ (z.map AV.sc).all AV.flat = true := by
  refine ⟨⟨by simp, fun i c v h1 h2 => ?_⟩, by simp [AV.flat]⟩
  simp only [List.getElem?_map, Option.map_eq_some_iff, List.getElem?_toArray] at h1 h2
  obtain ⟨u, e1, e2⟩ := h1
  rw [h2] at e1
  cases e1
  subst e2
  exact .sc (h _ (List.mem_of_getElem? h2))
theorem build_ok {t : TypeId} {z : List Value} {pl : Nat → Option (Nat × Nat)} (hz : tzero P t = some z) (hpl : placeOf P t = some pl) {tm : TM} {r : Operand → Value} {parts : Array (Nat × Operand)} {ps : List (Nat × Nat × AV)}
    (h1 : partsOf pl tm parts.toList = some ps) {v : AV} (h2 : kIf (z.map .sc) ps = some v) (hr : ∀ p ∈ parts.toList, Rep own w ρ (ev tm p.2) (r p.2)) :
    ∃ u, (Instr.build t (parts.map fun (i, x) => (i, r x))).run P w = .ok u w ∧ Rep own w ρ v u := by
  obtain ⟨i, zv, e1, e2, e3, e4⟩ := kEo hz
  unfold kIf at h2
  split at h2
  · rename_i cs hcs
    cases h2
    obtain ⟨c1, c2⟩ := zcells (own := own) (w := w) (ρ := ρ) e4
    obtain ⟨vs', f1, f2, f3⟩ := fill_ok (r := r) parts.toList ps _ cs z.toArray h1 hcs c1 c2 hr
    have hb : P.built t (parts.map fun (i, x) => (i, r x)).toList = some vs' := by
      have hzz : zv.cells = z.toArray := by rw [← e3]
      have hp : (parts.map fun (i, x) => (i, r x)).toList = parts.toList.map fun p => (p.1, r p.2) := by simp
      rw [hp]
      unfold Program.built
      unfold placeOf at hpl
      split at hpl
      · rename_i fs hu
        split at hpl
        · rename_i l hl
          cases hpl
          simp only [e1, hu, e2, hl, hzz]
          exact f1
        · cases hpl
      · rename_i n e hu
        split at hpl
        · rename_i ie hie
          cases hpl
          simp only [e1, hu, e2, hie, hzz]
          exact f1
        · cases hpl
      · cases hpl
    exact ⟨_, run_build w t _ _ hb, .agg f3 f2.1 f2.2⟩
  · cases h2
def BRep (own : Nat → Prop) (w : World) (ρ : RM) (x : Option AV) (v : Option Value) : Prop :=
  match x, v with
  | none, none => True
  | some x, some v => Rep own w ρ x v
  | _, _ => False
theorem bound_cases {x : Option AV} {px : Option Value} {d n m : Nat} (hx : BRep own w ρ x px) (h : kF9 x d n = some m) : (px = none ∧ m = d) ∨ ∃ k, px = some (.int k m) ∧ m ≤ n := by
  cases x with
  | none =>
    cases px with
    | none => simp [kF9] at h; exact .inl ⟨rfl, h.symm⟩
    | some v => exact hx.elim
  | some x =>
    cases px with
    | none => exact hx.elim
    | some v =>
      simp only [kF9] at h
      obtain ⟨k, rfl, hlt⟩ := kGx h
      have hv := Rep.int_inv hx
      subst hv
      exact .inr ⟨k, rfl, by omega⟩
theorem bounds_ok {b : Bool} {len cap h l n : Nat} {lo hi : Option AV} {pl ph : Option Value} (hlo : BRep own w ρ lo pl) (hhi : BRep own w ρ hi ph)
    (h1 : kF9 hi len n = some h) (hn : n ≤ cap) (h2 : kF9 lo 0 h = some l) : (Instr.sliceBounds b len cap pl ph none).run P w = .ok (l, h, cap) w ∧ l ≤ h ∧ (h ≤ n ∨ h = len) := by
  rcases bound_cases hhi h1 with ⟨rfl, rfl⟩ | ⟨k, rfl, hk⟩ <;> rcases bound_cases hlo h2 with ⟨rfl, rfl⟩ | ⟨k', rfl, hk'⟩
  · exact ⟨by simp [Instr.sliceBounds], by omega, by omega⟩
  · have r1 := fun code => run_sliceBound (P := P) w k' l h code (by omega) (by omega)
    exact ⟨by simp [Instr.sliceBounds, r1], by omega, by omega⟩
  · have r1 := fun code => run_sliceBound (P := P) w k h cap code (by omega) (by omega)
    exact ⟨by simp [Instr.sliceBounds, r1], by omega, by omega⟩
  · have r1 := fun code => run_sliceBound (P := P) w k h cap code (by omega) (by omega)
    have r2 := fun code => run_sliceBound (P := P) w k' l h code (by omega) (by omega)
    exact ⟨by simp [Instr.sliceBounds, r1, r2], by omega, by omega⟩
theorem sliceStr_ok {t : TypeId} (hu : P.underlying t = some .string) {x v : AV} {lo hi : Option AV} {px : Value} {pl ph : Option Value} (hx : Rep own w ρ x px) (hlo : BRep own w ρ lo pl) (hhi : BRep own w ρ hi ph)
    (h : aSliceStr x lo hi = some v) : ∃ u, (Instr.sliceAt t px pl ph none).run P w = .ok u w ∧ Rep own w ρ v u := by
  unfold aSliceStr at h
  split at h
  · rename_i s
    split at h
    · rename_i hh h1
      split at h
      · rename_i l h2
        cases h
        rw [hx.str_inv]
        have := bounds_ok (P := P) (b := false) hlo hhi h1 (Nat.le_refl _) h2
        exact ⟨_, by simp [Instr.sliceAt, Instr.slice, run_underlying hu, this.1], .sc rfl⟩
      · cases h
    · cases h
  · cases h
theorem slice_ok {t e : TypeId} {s : Nat} (hu : P.underlying t = some (.slice e)) (hs : tsize P e = some s) {h H : kA4} (hp : h <+: H) (hr : HRep P X ρ H w) {x v : AV} {lo hi : Option AV} {px : Value} {pl ph : Option Value}
    (hx : Rep (Own X ρ) w ρ x px) (hlo : BRep (Own X ρ) w ρ lo pl) (hhi : BRep (Own X ρ) w ρ hi ph) (hl : kG2 s x lo hi h = some v) :
    ∃ u, (Instr.sliceAt t px pl ph none).run P w = .ok u w ∧ Rep (Own X ρ) w ρ v u := by
  have key : ∀ (a : Option Addr) (len cap hh l n : Nat), kF9 hi len n = some hh → n ≤ cap → kF9 lo 0 hh = some l →
      (Instr.sliceAt t (.slice a len cap) pl ph none).run P w = .ok (.slice (if cap = l then a else a.map (·.add (l * s))) (hh - l) (cap - l)) w ∧ l ≤ hh ∧ (hh ≤ n ∨ hh = len) := fun a len cap hh l n h1 hn h2 => by
    have := bounds_ok (P := P) (b := true) hlo hhi h1 hn h2
    exact ⟨by simp [Instr.sliceAt, Instr.slice, run_underlying hu, this.1, kBv hs], this.2⟩
  cases hx with
  | @sc _ v hv =>
    unfold kG2 at hl
    split at hl
    · rename_i e0
      cases e0
      split at hl
      · rename_i hh h1
        split at hl
        · rename_i l h2
          cases hl
          obtain ⟨k1, k2, k3⟩ := key none 0 0 hh l 0 h1 (Nat.le_refl _) h2
          have : l = 0 := by omega
          subst this
          have : hh = 0 := by omega
          subst this
          exact ⟨_, by rw [k1]; rfl, .sc rfl⟩
        · cases hl
      · cases hl
    all_goals (rename_i e0; first | cases e0 | cases hl)
  | @sl _ o ep i n cap a io hio he ha =>
    simp only [kG2] at hl
    split at hl
    · rename_i ob hob
      split at hl
      · rename_i hc
        split at hl
        · rename_i hh h1
          split at hl
          · rename_i l h2
            cases hl
            have r := hr.look hp hio hob
            obtain ⟨g1, g2, g3⟩ := ha (by rw [← r.ep, hc.1])
            obtain ⟨k1, k2, k3⟩ := key (some a) n cap hh l n h1 g1 h2
            rw [k1]
            by_cases hcl : cap = l
            · rw [if_pos hcl]
              exact ⟨_, rfl, .sl hio he fun _ => ⟨by omega, by omega, fun _ => by omega⟩⟩
            · rw [if_neg hcl]
              refine ⟨_, rfl, .sl hio he fun _ => ⟨by omega, by omega, fun _ => ?_⟩⟩
              rw [g3 (by omega)]
              dsimp only
              rw [Addr.add_mid, Nat.add_mul, ← hc.2, r.k]
          · cases hl
        · cases hl
      · cases hl
    · cases hl
  | @fs _ k rows a cap cf hk hc ha hown hcell hrep =>
    simp only [kG2] at hl
    split at hl
    · rename_i hks
      split at hl
      · rename_i hh h1
        split at hl
        · rename_i l h2
          cases hl
          obtain ⟨k1, k2, k3⟩ := key (some a) rows.length cap hh l rows.length h1 hc h2
          have hlen : ((rows.take hh).drop l).length = hh - l := by simp; omega
          have hrows : ∀ i j c, kB4 ((rows.take hh).drop l) i j = some c → kB4 rows (l + i) j = some c ∧ i < hh - l := fun i j c h => by
            obtain ⟨row, q1, q2⟩ := kB5 h
            have q3 := (List.getElem?_eq_some_iff.1 q1).1
            rw [List.getElem?_drop, List.getElem?_take] at q1
            split at q1
            · exact ⟨by unfold kB4; rw [q1]; exact q2, by omega⟩
            · cases q1
          have hmem : ∀ row ∈ (rows.take hh).drop l, row.length = k ∧ row.all AV.flat = true := fun row hrow => hk row (List.mem_of_mem_take (List.mem_of_mem_drop hrow))
          have hown' : 0 < ((rows.take hh).drop l).length * k → 0 < rows.length * k := fun h => by
            rw [hlen] at h
            have h1 := Nat.pos_of_mul_pos_right h
            have h2 := Nat.pos_of_mul_pos_left h
            exact Nat.mul_pos (by omega) h2
          rw [k1, ← hlen]
          by_cases hcl : cap = l
          · rw [if_pos hcl]
            refine ⟨_, rfl, .fs hmem (by omega) (fun _ => by omega) (fun h => hown (hown' h)) (cf := cf) (fun i j c h => ?_) fun i j c h => ?_⟩
            · have := (hrows i j c h).2; omega
            · have := (hrows i j c h).2; omega
          · rw [if_neg hcl]
            obtain ⟨ab, ao, asp⟩ := a
            refine ⟨_, rfl, .fs hmem (by omega) (fun hpos => ?_) (fun h => ?_) (cf := fun i j => cf (l + i) j) (fun i j c h => ?_) fun i j c h => hrep (l + i) j c (hrows i j c h).1⟩
            · have e1 : asp = none := ha (by omega)
              subst e1
              dsimp only
              rw [Addr.add_mid]
            · have e1 : asp = none := ha (by have := Nat.pos_of_mul_pos_right h; omega)
              subst e1
              dsimp only
              rw [Addr.add_mid]
              exact hown (hown' h)
            · have h3 := hrows i j c h
              have e1 : asp = none := ha (by omega)
              subst e1
              dsimp only
              rw [Addr.add_mid]
              have := hcell (l + i) j c h3.1
              simp only at this ⊢
              rw [← hks, show ao + l * k + i * k + j = ao + (l + i) * k + j by rw [Nat.add_mul]; omega]
              exact this
        · cases hl
      · cases hl
    · cases hl
  | _ => simp [kG2] at hl
def Made (P : Program) (X : Nat → Prop) (ρ : RM) (w : World) (h h' H : kA4) (v : AV) (u : Value) (w' : World) : Prop :=
  ∃ ρ', HRep P X ρ' H w' ∧ Step ρ w ρ' w' ∧ Rep (Own X ρ') w' ρ' v u ∧ ∀ x, ρ' x ≠ none → ρ x ≠ none ∨ (h.length ≤ x ∧ x < h'.length)
theorem Made.same {h H : kA4} {v : AV} {u : Value} (hr : HRep P X ρ H w) (hv : Rep (Own X ρ) w ρ v u) : Made P X ρ w h h H v u w :=
  ⟨ρ, hr, Step.refl _ _, hv, fun _ hx => .inl hx⟩
theorem new_ok {h H : kA4} {ob : AObj} (hp : h ++ [ob] <+: H) (hr : HRep P X ρ H w) (hn : ρ h.length = none) (C : Nat) (cs : Array Value) (elem : TypeId) (fz : Nat × Nat)
    (hC : ob.rows.length ≤ C) (hsz : C * ob.k ≤ cs.size) (hfz : ∀ x, x < C * ob.k → ¬ (fz.1 ≤ x ∧ x < fz.2)) (hz : ob.k ≠ 1 → fz = (0, 0)) (hwid : ∀ row ∈ ob.rows, row.length = ob.k ∧ row.all AV.flat = true)
    (hcs : ∀ i j c, kB4 ob.rows i j = some c → ∃ v, cs[i * ob.k + j]? = some v ∧ Rep (Own X ρ) w ρ c v) {v : AV} {u : Value}
    (hv : ∀ ρ' : RM, ρ' h.length = some ⟨w.heap.size, C, ob.k, ob.rows.length⟩ → Rep (Own X ρ') (w.alloc (.cells cs elem fz)) ρ' v u) : Made P X ρ w h (h ++ [ob]) H v u (w.alloc (.cells cs elem fz)) := by
  refine ⟨_, hr.alloc h.length hn ob (kH1 hp (by simp)) C cs elem fz hC hsz hfz hz hwid hcs, Step.alloc h.length hn _ _ rfl, hv _ kC4, fun x hx => ?_⟩
  by_cases e : x = h.length
  · subst e; exact .inr ⟨Nat.le_refl _, by simp⟩
  · rw [kCl e] at hx; exact .inl hx
theorem run_newVar (t : TypeId) (v : Value) (w : World) : (newVar t v).run P w = .ok ⟨w.heap.size, 0, none⟩ (w.alloc (.cells v.cells t)) := rfl
theorem box_ok {t : TypeId} {h h' H : kA4} {x v : AV} {px : Value} (hb : kG1 x.cells h = some (v, h')) (hp : h' <+: H) (hr : HRep P X ρ H w) (hn : ρ h.length = none) (hx : Rep (Own X ρ) w ρ x px) :
    (Instr.box t px).run P w = .ok (.pointer (some ⟨w.heap.size, 0, none⟩)) (w.alloc (.cells px.cells t)) ∧ Made P X ρ w h h' H v (.pointer (some ⟨w.heap.size, 0, none⟩)) (w.alloc (.cells px.cells t)) := by
  unfold kG1 at hb
  split at hb
  · rename_i hf
    cases hb
    have hc := cells_ok hx hf
    refine ⟨rfl, new_ok hp hr hn 1 px.cells t (0, 0) (by simp) (by have := hc.1; simp; omega) (by simp) (fun _ => rfl) (by simpa using hf) (fun i j c h => ?_) fun ρ' e => .ptr e (Nat.le_refl _) fun _ => by simp⟩
    obtain ⟨row, q1, q2⟩ := kB5 h
    match i with
    | 0 =>
      simp at q1
      subst q1
      have h2 := (List.getElem?_eq_some_iff.1 q2).1
      have h3 : px.cells[j]? = some (px.cells[j]'(by have := hc.1; omega)) := Array.getElem?_eq_getElem _
      exact ⟨_, by simp, hc.2 j c _ q2 h3⟩
    | i + 1 => simp at q1
  · cases hb
theorem alloc_ok {t : TypeId} {z : List Value} (hz : tzero P t = some z) {h h' H : kA4} {v : AV} (hb : kG1 (z.map .sc) h = some (v, h')) (hp : h' <+: H) (hr : HRep P X ρ H w) (hn : ρ h.length = none) :
    ∃ u w', (Instr.alloc t true (.tuple #[])).run P w = .ok u w' ∧ Made P X ρ w h h' H v u w' := by
  obtain ⟨i, zv, e1, e2, e3, e4⟩ := kEo hz
  obtain ⟨c1, c2⟩ := zcells (own := Own X ρ) (w := w) (ρ := ρ) e4
  have hx : Rep (Own X ρ) w ρ (.agg (z.map .sc)) (.agg z.toArray) := .agg c2 c1.1 c1.2
  obtain ⟨-, h2⟩ := box_ok (P := P) (t := t) (x := .agg (z.map .sc)) hb hp hr hn hx
  have hzz : zv.cells = z.toArray := by rw [← e3]
  refine ⟨_, _, ?_, h2⟩
  simp [Instr.alloc, zeroValue, typeInfo, e1, e2, run_newVar, hzz]
  rfl
end Go.Eng
