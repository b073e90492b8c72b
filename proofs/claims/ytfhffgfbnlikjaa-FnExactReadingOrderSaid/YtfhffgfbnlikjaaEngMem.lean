import Derived.Test.YtfhffgfbnlikjaaEngNew
namespace Go.Eng
set_option linter.unusedVariables false
set_option linter.unusedSimpArgs false
variable {P : Program} {X : Nat → Prop} {own : Nat → Prop} {w : World} {ρ : RM}
theorem kDj {i n k j : Nat} (hi : i < n) (hj : j < k) : i * k + j < n * k := by
  have := Nat.mul_le_mul_right k hi
  rw [Nat.succ_mul] at this
  omega
theorem row_apart {i i' k j : Nat} (h : i' ≠ i) (hj : j < k) : ¬ (i * k ≤ i' * k + j ∧ i' * k + j < i * k + k) := by
  rcases Nat.lt_or_gt_of_ne h with h | h
  · have := Nat.mul_le_mul_right k h
    rw [Nat.succ_mul] at this
    omega
  · have := Nat.mul_le_mul_right k h
    rw [Nat.succ_mul] at this
    omega
def Flat (own : Nat → Prop) (w : World) (ρ : RM) (k : Nat) (rows : List (List AV)) (vs : Array Value) : Prop :=
  vs.size = rows.length * k ∧ (∀ row ∈ rows, row.length = k ∧ row.all AV.flat = true) ∧
    ∀ (i j : Nat) (c : AV), kB4 rows i j = some c → ∃ v, vs[i * k + j]? = some v ∧ Rep own w ρ c v
theorem kFl {rows : List (List AV)} {k i j : Nat} {c : AV} (hk : ∀ row ∈ rows, row.length = k ∧ row.all AV.flat = true) (h : kB4 rows i j = some c) : i < rows.length ∧ j < k := by
  obtain ⟨row, q1, q2⟩ := kB5 h
  exact ⟨(List.getElem?_eq_some_iff.1 q1).1, by rw [← (hk row (List.mem_of_getElem? q1)).1]; exact (List.getElem?_eq_some_iff.1 q2).1⟩
theorem zrows_flat {z : List Value} (hz : ∀ c ∈ z, c.oneCell' = true) (n N : Nat) (hn : n ≤ N) :
    (∀ row ∈ kCy (z.map .sc) n, row.length = z.length ∧ row.all AV.flat = true) ∧
    ∀ (i j : Nat) (c : AV), kB4 (kCy (z.map .sc) n) i j = some c → ∃ v, (madeCells z.toArray (N * z.length))[i * z.length + j]? = some v ∧ Rep own w ρ c v := by
  refine ⟨fun row hrow => ?_, fun i j c h => ?_⟩
  · have := List.eq_of_mem_replicate hrow
    subst this
    exact ⟨by simp, by simp [AV.flat]⟩
  · obtain ⟨row, q1, q2⟩ := kB5 h
    have hi : i < n := by have := (List.getElem?_eq_some_iff.1 q1).1; simpa [kCy] using this
    have hrow := List.eq_of_mem_replicate (List.mem_of_getElem? q1)
    subst hrow
    simp only [List.getElem?_map, Option.map_eq_some_iff] at q2
    obtain ⟨u, e1, e2⟩ := q2
    subst e2
    obtain ⟨hj, e3⟩ := List.getElem?_eq_some_iff.1 e1
    have hlt : i * z.length + j < N * z.length := kDj (by omega) hj
    refine ⟨u, ?_, .sc (hz u (List.mem_of_getElem? e1))⟩
    unfold madeCells
    rw [Array.getElem?_map, Array.getElem?_eq_getElem (by simpa using hlt)]
    simp only [Array.getElem_range, Option.map_some, List.size_toArray]
    rw [Nat.mul_comm, Nat.mul_add_mod, Nat.mod_eq_of_lt hj]
    simp [hj, e3]
theorem makeSlice_ok {t e : TypeId} {s b : Nat} {z : List Value} (hu : P.underlying t = some (.slice e)) (hz : tzero P e = some z) (hs : tsize P e = some (s + 1)) (hb : tbytes P e = some b) (hl : z.length = s + 1)
    {h h' H : kA4} {len cap v : AV} {pl pc : Value} (hm : kDz (z.map .sc) b len cap h = some (v, h')) (hp : h' <+: H) (hr : HRep P X ρ H w) (hn : ρ h.length = none)
    (hlen : Rep (Own X ρ) w ρ len pl) (hcap : Rep (Own X ρ) w ρ cap pc) : ∃ u w', (Instr.makeSlice t pl pc).run P w = .ok u w' ∧ Made P X ρ w h h' H v u w' := by
  obtain ⟨i, zv, e1, e2, e3, e4⟩ := kEo hz
  obtain ⟨i1, f1, f2⟩ := kH2 hs
  obtain ⟨i2, g1, g2⟩ := kI5 hb
  rw [e1] at f1 g1
  cases f1
  cases g1
  unfold kDz at hm
  split at hm
  · rename_i k1 n k2 c
    split at hm
    · rename_i hc
      obtain ⟨c1, c2, c3, c4⟩ := hc
      cases hm
      rw [hlen.int_inv, hcap.int_inv]
      have hzz : zv.cells = z.toArray := by rw [← e3]
      have hbytes : (i.bytes : Int) * c ≤ 281474976710656 := by
        have h1 : (c.toNat : Int) = c := Int.toNat_of_nonneg (by omega)
        have h2 : ((c.toNat * b : Nat) : Int) ≤ (kBh : Nat) := by exact_mod_cast c4
        rw [Int.natCast_mul, h1, Int.mul_comm] at h2
        rw [g2]
        have h3 : ((kBh : Nat) : Int) = 140737488355328 := rfl
        omega
      have hrun := run_make w t e i zv hu e1 e2 k1 k2 n c c1 c2 hbytes (by have h3 : ((kBh : Nat) : Int) = 140737488355328 := rfl; omega)
      rw [hzz, f2, ← hl] at hrun
      obtain ⟨q1, q2⟩ := zrows_flat (own := Own X ρ) (w := w) (ρ := ρ) e4 n.toNat c.toNat (by omega)
      refine ⟨_, _, hrun, ?_⟩
      have hp' := hp
      rw [List.length_map] at hp'
      simp only [List.length_map]
      refine new_ok (ob := ⟨z.length, kCy (z.map .sc) n.toNat⟩) hp' hr hn c.toNat _ e (0, 0) (by simp [kCy]; omega) (by simp [size_madeCells]) (by simp) (fun _ => rfl) q1 q2 fun ρ' e => .sl e (by simp [kCy]) fun _ => ⟨by omega, by simp, fun _ => by simp⟩
    · cases hm
  · cases hm
theorem fillRows_ok {k : Nat} {tm : TM} {r : Operand → Value} : ∀ (parts : List (Nat × Operand)) (rows rows' : List (List AV)) (vs : Array Value),
    kB9 rows (parts.map fun p => (p.1, ev tm p.2)) = some rows' → Flat own w ρ k rows vs → (∀ p ∈ parts, Rep own w ρ (ev tm p.2) (r p.2)) →
    ∃ vs', Instr.fill (fun i => some (i * k, k)) vs (parts.map fun p => (p.1, r p.2)) = some vs' ∧ Flat own w ρ k rows' vs' ∧ rows'.length = rows.length
  | [], rows, rows', vs, h, hf, _ => by
    simp [kB9] at h
    subst h
    exact ⟨vs, by simp [Instr.fill], hf, rfl⟩
  | (i, x) :: parts, rows, rows', vs, h, hf, hr => by
    simp only [List.map_cons, kB9] at h
    split at h
    · rename_i hq
      obtain ⟨q1, q2, q3⟩ := hq
      obtain ⟨f1, f2, f3⟩ := hf
      have hrow : (rows.getD i []).length = k := by
        rw [List.getD_eq_getElem?_getD, List.getElem?_eq_getElem q1]
        exact (f2 _ (List.getElem_mem q1)).1
      have hu := cells_ok (hr (i, x) (by simp)) q3
      have hus : (r x).cells.size = k := by rw [hu.1, q2, hrow]
      have hin : i * k + k ≤ vs.size := by
        rw [f1]
        have := Nat.mul_le_mul_right k q1
        rw [Nat.succ_mul] at this
        exact this
      obtain ⟨g1, g2⟩ := foldl_set (i * k) (r x).cells.toList 0 vs (by simp; omega)
      have hfold : (r x).cells.zipIdx.foldl (fun cs (c, j) => cs.setIfInBounds (i * k + j) c) vs = ((r x).cells.toList.zipIdx 0).foldl (fun cs (c, j) => cs.setIfInBounds (i * k + j) c) vs := by
        rw [← Array.foldl_toList, Array.toList_zipIdx]
      simp only [Nat.add_zero, Array.length_toList, Array.getElem?_toList, hus] at g2
      have hF : Flat own w ρ k (rows.set i (ev tm x).cells) ((r x).cells.zipIdx.foldl (fun cs (c, j) => cs.setIfInBounds (i * k + j) c) vs) := by
        rw [hfold]
        refine ⟨by rw [g1, f1]; simp, fun row hrow' => ?_, fun i' j c hc => ?_⟩
        · rcases List.mem_or_eq_of_mem_set hrow' with h | h
          · exact f2 row h
          · subst h; exact ⟨by rw [q2, hrow], q3⟩
        · obtain ⟨row, p1, p2⟩ := kB5 hc
          rw [g2]
          by_cases e : i' = i
          · subst e
            rw [List.getElem?_set_self q1] at p1
            cases p1
            have hj := (List.getElem?_eq_some_iff.1 p2).1
            have hj' : j < (r x).cells.size := by rw [hu.1]; exact hj
            rw [if_pos (by omega)]
            refine ⟨(r x).cells[j], ?_, hu.2 j c _ p2 (Array.getElem?_eq_getElem hj')⟩
            rw [show i' * k + j - i' * k = j by omega]
            exact Array.getElem?_eq_getElem hj'
          · rw [List.getElem?_set_ne (by omega)] at p1
            have hj : j < k := by rw [← (f2 row (List.mem_of_getElem? p1)).1]; exact (List.getElem?_eq_some_iff.1 p2).1
            rw [if_neg (row_apart e hj)]
            exact f3 i' j c (by unfold kB4; rw [p1]; exact p2)
      obtain ⟨vs', k1, k2, k3⟩ := fillRows_ok parts _ rows' _ h hF (fun p hp => hr p (by simp [hp]))
      refine ⟨vs', ?_, k2, by rw [k3]; simp⟩
      simp only [List.map_cons, Instr.fill, hus]
      rw [if_neg (by simp; omega)]
      exact k1
    · cases h
theorem madeCells_flat {z : List Value} (hz : ∀ c ∈ z, c.oneCell' = true) (n : Nat) : Flat own w ρ z.length (kCy (z.map .sc) n) (madeCells z.toArray (n * z.length)) := by
  obtain ⟨q1, q2⟩ := zrows_flat (own := own) (w := w) (ρ := ρ) hz n n (Nat.le_refl _)
  exact ⟨by simp [size_madeCells, kCy], q1, q2⟩
theorem buildSlice_ok {t e : TypeId} {s n : Nat} {z : List Value} (hu : P.underlying t = some (.slice e)) (hz : tzero P e = some z) (hs : tsize P e = some (s + 1)) (hl : z.length = s + 1) (h24 : n * (s + 1) ≤ 16777216)
    {h h' H : kA4} {v : AV} {tm : TM} {r : Operand → Value} {parts : Array (Nat × Operand)} (hm : kAf (z.map .sc) n (parts.toList.map fun p => (p.1, ev tm p.2)) h = some (v, h')) (hp : h' <+: H) (hr : HRep P X ρ H w) (hn : ρ h.length = none)
    (hparts : ∀ p ∈ parts.toList, Rep (Own X ρ) w ρ (ev tm p.2) (r p.2)) : ∃ u w', (Instr.buildSlice t n (parts.map fun (i, x) => (i, r x))).run P w = .ok u w' ∧ Made P X ρ w h h' H v u w' := by
  obtain ⟨i, zv, e1, e2, e3, e4⟩ := kEo hz
  unfold kAf at hm
  split at hm
  · rename_i rows hrows
    cases hm
    have hzz : zv.cells = z.toArray := by rw [← e3]
    have hF := madeCells_flat (own := Own X ρ) (w := w) (ρ := ρ) e4 n
    obtain ⟨vs', k1, k2, k3⟩ := fillRows_ok (r := r) parts.toList _ rows _ hrows hF hparts
    rw [hl] at k1 k2
    have hlen : rows.length = n := by rw [k3]; simp [kCy]
    have hp' := hp
    rw [List.length_map] at hp'
    simp only [List.length_map]
    have hrun : (Instr.buildSlice t n (parts.map fun (i, x) => (i, r x))).run P w = .ok (.slice (some ⟨w.heap.size, 0, none⟩) n n) (w.alloc (.cells vs' e)) := by
      have hpl : (parts.map fun (i, x) => (i, r x)).toList = parts.toList.map fun p => (p.1, r p.2) := by simp
      have h24' : ¬ (16777216 < n * (s + 1)) := by omega
      have hzv : (zeroValue e).run P w = .ok zv w := by simp [zeroValue, typeInfo, e1, e2]
      unfold Instr.buildSlice
      simp only [Sem.run_bind, run_underlying hu, Result.andThen_ok, kBv hs]
      rw [if_neg (by simpa using h24')]
      have hm1 : (Array.range (n * (s + 1))).map (z.toArray[· % z.toArray.size]!) = madeCells z.toArray (n * (s + 1)) := rfl
      have hm0 : n * (s + 1) = 0 → (Array.range (n * (s + 1))).map ((#[] : Array Value)[· % (#[] : Array Value).size]!) = madeCells z.toArray (n * (s + 1)) := fun h0 => by
        rw [h0]
        simp [madeCells]
      by_cases h0 : n * (s + 1) = 0
      · rw [if_pos h0]
        simp only [Sem.run_bind, Sem.run_pure, Result.andThen_ok]
        rw [hpl, hm0 h0, k1]
        simp [newRow]
      · rw [if_neg h0]
        simp only [Sem.run_bind, Sem.run_pure, Result.andThen_ok, hzv, hzz]
        rw [hpl, hm1, k1]
        simp [newRow]
    refine ⟨_, _, hrun, ?_⟩
    rw [hl]
    refine new_ok (ob := ⟨s + 1, rows⟩) (by rw [← hl]; exact hp') hr hn n vs' e (0, 0) (by simp [hlen]) (by simp; rw [k2.1, hlen]; exact Nat.le_refl _) (by simp) (fun _ => rfl) k2.2.1 k2.2.2 fun ρ' e => .sl e (by simp [hlen]) fun _ => ⟨Nat.le_refl _, by simp, fun _ => by simp⟩
  · cases hm
theorem freeze_alloc (w : World) (cs : Array Value) (e : TypeId) : (w.alloc (.cells cs e)).freeze ⟨w.heap.size, cs.size, none⟩ 1 = w.alloc (.cells cs e (cs.size, cs.size + 1)) := by
  unfold World.freeze
  rw [if_neg (by omega)]
  unfold World.alloc
  congr 1
  apply Array.ext_getElem?
  intro i
  simp only [Array.getElem?_modify, Array.getElem?_push]
  by_cases h : i = w.heap.size
  · subst h
    simp
  · simp [h, Ne.symm h]
theorem convBytes_ok {src dst e : TypeId} (hs : P.underlying src = some .string) (hd : P.underlying dst = some (.slice e)) (he : P.underlying e = some (.int .u8))
    {h h' H : kA4} {x v : AV} {px : Value} (hm : kGw x h = some (v, h')) (hp : h' <+: H) (hr : HRep P X ρ H w) (hn : ρ h.length = none) (hx : Rep (Own X ρ) w ρ x px) :
    ∃ u w', (convert src dst px).run P w = .ok u w' ∧ Made P X ρ w h h' H v u w' := by
  unfold kGw at hm
  split at hm
  · rename_i s
    split at hm
    · rename_i hsz
      cases hm
      rw [hx.str_inv]
      refine ⟨_, _, Lib.run_convert_string_bytes w src dst e s hs hd he, ?_⟩
      have e1 : Lib.bytesWorld w e s = w.drew.alloc (.cells (Lib.bytesCells w e s) e ((Lib.bytesCells w e s).size, (Lib.bytesCells w e s).size + 1)) := freeze_alloc w.drew _ e
      have hcap : s.size ≤ grownCap w s.size 0 e := grownCap_ge w s.size 0 e
      have hbs : (Lib.bytesCells w e s).size = grownCap w s.size 0 e := by
        unfold Lib.bytesCells
        simp
        have : s.data.size = s.size := rfl
        omega
      rw [e1]
      have hdl : s.data.toList.length = s.size := by rw [Array.length_toList]; rfl
      obtain ⟨ρ', a1, a2, a3, a4⟩ := new_ok (w := w.drew) (ob := ⟨1, s.data.toList.map fun b => [AV.sc (.int .u8 b.toNat)]⟩) (v := .sl h.length s.size 0 s.size) (u := .slice (some ⟨w.heap.size, 0, none⟩) s.size (grownCap w s.size 0 e)) hp hr.drew hn (grownCap w s.size 0 e) (Lib.bytesCells w e s) e ((Lib.bytesCells w e s).size, (Lib.bytesCells w e s).size + 1)
        (by simp; exact hcap) (by simp [hbs]) (fun x hx => by simp at hx ⊢; omega) (fun h => absurd rfl h)
        (fun row hrow => by
          obtain ⟨b, _, rfl⟩ := List.mem_map.1 hrow
          exact ⟨rfl, rfl⟩)
        (fun i j c hc => by
          obtain ⟨row, p1, p2⟩ := kB5 hc
          simp only [List.getElem?_map, Option.map_eq_some_iff] at p1
          obtain ⟨b, q1, rfl⟩ := p1
          have hi := (List.getElem?_eq_some_iff.1 q1).1
          match j with
          | 0 =>
            simp at p2
            subst p2
            refine ⟨.int .u8 b.toNat, ?_, .sc rfl⟩
            unfold Lib.bytesCells
            simp only [Nat.mul_one, Nat.add_zero]
            rw [Array.getElem?_append_left (by simpa using hi), Array.getElem?_map, ← Array.getElem?_toList, q1]
            rfl
          | j + 1 => simp at p2)
        (fun ρ' e' => .sl e' (by simp) fun _ => ⟨hcap, by simp, fun _ => by simp⟩)
      exact ⟨ρ', a1, (Step.drew ρ w).trans a2, a3, a4⟩
    · cases hm
  · cases hm
end Go.Eng
