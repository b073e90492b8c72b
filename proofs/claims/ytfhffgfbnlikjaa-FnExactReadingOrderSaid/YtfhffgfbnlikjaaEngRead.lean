import Derived.Test.YtfhffgfbnlikjaaEngRep
namespace Go.Eng
set_option linter.unusedVariables false
set_option linter.unusedSimpArgs false
variable {P : Program} {X : Nat → Prop} {own : Nat → Prop} {w : World} {ρ : RM}
theorem kH2 {t : TypeId} {s : Nat} (h : tsize P t = some s) : ∃ i, P.info? t = some i ∧ i.size = s := by
  unfold tsize at h
  cases hi : P.info? t with
  | none => simp [hi] at h
  | some i => exact ⟨i, rfl, by simpa [hi] using h⟩
theorem kI5 {t : TypeId} {s : Nat} (h : tbytes P t = some s) : ∃ i, P.info? t = some i ∧ i.bytes = s := by
  unfold tbytes at h
  cases hi : P.info? t with
  | none => simp [hi] at h
  | some i => exact ⟨i, rfl, by simpa [hi] using h⟩
theorem kEo {t : TypeId} {z : List Value} (h : tzero P t = some z) : ∃ i v, P.info? t = some i ∧ i.zero = some v ∧ v.cells.toList = z ∧ ∀ c ∈ z, c.oneCell' = true := by
  unfold tzero at h
  cases hi : P.info? t with
  | none => simp [hi] at h
  | some i =>
    cases hz : i.zero with
    | none => simp [hi, hz] at h
    | some v =>
      simp only [hi, hz, Option.bind_some] at h
      split at h
      · rename_i hall
        cases h
        exact ⟨i, v, rfl, hz, rfl, fun c hc => Array.all_eq_true_iff_forall_mem.1 hall c (by simpa using hc)⟩
      · cases h
theorem kBv {t : TypeId} {s : Nat} (h : tsize P t = some s) (w : World) : (sizeOf t).run P w = .ok s w := by
  obtain ⟨i, hi, rfl⟩ := kH2 h
  simp [sizeOf, typeInfo, hi]
theorem kCs {t : TypeId} {g : Bool} (h : tagg P t = some g) (w : World) : (isAgg t).run P w = .ok g w := by
  unfold tagg at h
  unfold isAgg
  rw [Sem.run_bind]
  cases hu : P.underlying t with
  | none => simp [hu] at h
  | some d =>
    rw [run_underlying hu]
    cases d <;> simp [hu] at h <;> subst h <;> rfl
theorem kEy {t e : TypeId} (h : tslice P t = some e) : P.underlying t = some (.slice e) := by
  unfold tslice at h
  split at h
  · rename_i x hx; cases h; exact hx
  · cases h
theorem tfield_some {t : TypeId} {i : Nat} {f : Field} (h : tfield P t i = some f) : ∃ fs, P.underlying t = some (.struct fs) ∧ fs[i]? = some f := by
  unfold tfield at h
  split at h
  · rename_i fs hx; exact ⟨fs, hx, h⟩
  · cases h
theorem Rep.lift {a : AV} {v : Value} (h : Rep own w RM.none a v) : Rep own w ρ a v :=
  h.mono (fun _ _ hn => ⟨hn, rfl⟩) ρ (fun _ _ e => by cases e)
theorem loadVar_ok {t : TypeId} {s : Nat} {g : Bool} (hs : tsize P t = some s) (hg : tagg P t = some g) {cells : List AV} {b off : Nat} {v : AV}
    (hc : ∀ x c, cells[x]? = some c → ∃ u, w.cell? ⟨b, off + x, none⟩ = some u ∧ Rep own w ρ c u) (hf : cells.all AV.flat = true) (hcut : cut g s cells = some v) :
    ∃ u, (loadVar t ⟨b, off, none⟩).run P w = .ok u w ∧ Rep own w ρ v u := by
  cases g with
  | true =>
    unfold cut at hcut
    simp only at hcut
    split at hcut
    · rename_i hle
      cases hcut
      have hl : (loadCells ⟨b, off, none⟩ s).run P w = .ok ((List.range s).map fun x => (w.cell? ⟨b, off + x, none⟩).getD undef).toArray w := by
        refine run_loadCells w _ s _ fun j hj => ?_
        obtain ⟨u, hu, _⟩ := hc j cells[j] (List.getElem?_eq_getElem (by omega))
        rw [Addr.add_mid, hu]
        rfl
      refine ⟨.agg ((List.range s).map fun x => (w.cell? ⟨b, off + x, none⟩).getD undef).toArray, ?_, ?_⟩
      · simp only [loadVar, Sem.run_bind, kCs hg, kBv hs, Result.andThen_ok, if_true, hl, Sem.run_pure]
      · refine .agg ?_ (by simp; omega) fun i c u h1 h2 => ?_
        · rw [List.all_eq_true] at hf ⊢
          exact fun x hx => hf x (List.mem_of_mem_take hx)
        · have hi : i < s := by
            have := (List.getElem?_eq_some_iff.1 h1).1
            simp at this
            omega
          rw [List.getElem?_take, if_pos hi] at h1
          obtain ⟨u', hu, hr⟩ := hc i c h1
          simp [hi, hu] at h2
          subst h2
          exact hr
    · cases hcut
  | false =>
    unfold cut at hcut
    cases cells with
    | nil => simp at hcut
    | cons c r =>
      simp at hcut
      subst hcut
      obtain ⟨u, hu, hr⟩ := hc 0 c rfl
      refine ⟨u, ?_, hr⟩
      simp only [loadVar, Sem.run_bind, kCs hg, Result.andThen_ok, Bool.false_eq_true, if_false, run_load]
      rw [show (⟨b, off + 0, none⟩ : Addr) = ⟨b, off, none⟩ from rfl] at hu
      rw [hu]
theorem all_drop {l : List AV} {n : Nat} (h : l.all AV.flat = true) : (l.drop n).all AV.flat = true := by
  rw [List.all_eq_true] at h ⊢
  exact fun x hx => h x (List.mem_of_mem_drop hx)
theorem kH1 {h H : kA4} (hp : h <+: H) {o : Nat} {ob : AObj} (e : h[o]? = some ob) : H[o]? = some ob := by
  obtain ⟨t, rfl⟩ := hp
  rw [List.getElem?_append_left (List.getElem?_eq_some_iff.1 e).1]
  exact e
theorem HRep.look {H : kA4} (hr : HRep P X ρ H w) {h : kA4} (hp : h <+: H) {o : Nat} {io : OI} {ob : AObj} (hio : ρ o = some io) (e : h[o]? = some ob) : ORep (Own X ρ) w ρ io ob := by
  obtain ⟨ob', e1, r⟩ := hr.obj o io hio
  rw [kH1 hp e] at e1
  cases e1
  exact r
theorem load_ok {t : TypeId} {s : Nat} {g : Bool} (hs : tsize P t = some s) (hg : tagg P t = some g) {h H : kA4} (hp : h <+: H) (hr : HRep P X ρ H w) {x v : AV} {px : Value}
    (hx : Rep (Own X ρ) w ρ x px) (hl : kAc g s x h = some v) : ∃ u, (Instr.loadAt t px).run P w = .ok u w ∧ Rep (Own X ρ) w ρ v u := by
  cases hx with
  | @ptr _ o ep i j a io hio he ha =>
    simp only [kAc] at hl
    split at hl
    · rename_i ob hob
      split at hl
      · rename_i hep
        split at hl
        · rename_i row hrow
          have r := hr.look hp hio hob
          have e1 := ha (by rw [← r.ep, hep])
          subst e1
          have hfl := (r.wid row (List.mem_of_getElem? hrow)).2
          obtain ⟨u, hu, hrep⟩ := loadVar_ok (P := P) (own := Own X ρ) (ρ := ρ) (w := w) hs hg (cells := row.drop j) (b := io.b) (off := i * io.k + j) (v := v)
            (fun x c hx => by
              rw [List.getElem?_drop] at hx
              obtain ⟨u, h1, h2⟩ := r.cells i (j + x) c (by unfold kB4; rw [hrow]; exact hx)
              exact ⟨u, by rw [Nat.add_assoc]; exact h1, h2⟩) (all_drop hfl) hl
          exact ⟨u, by simpa [Instr.loadAt, Instr.sureAddr] using hu, hrep⟩
        · cases hl
      · cases hl
    · cases hl
  | @fptr _ k rows b off i j cf hk hown hcell hrep =>
    simp only [kAc] at hl
    split at hl
    · rename_i row hrow
      have hfl := (hk row (List.mem_of_getElem? hrow)).2
      obtain ⟨u, hu, hrep'⟩ := loadVar_ok (P := P) (own := Own X ρ) (ρ := ρ) (w := w) hs hg (cells := row.drop j) (b := b) (off := off + i * k + j) (v := v)
        (fun x c hx => by
          rw [List.getElem?_drop] at hx
          have h1 : kB4 rows i (j + x) = some c := by unfold kB4; rw [hrow]; exact hx
          exact ⟨cf i (j + x), by rw [Nat.add_assoc]; exact hcell i (j + x) c h1, (hrep i (j + x) c h1).lift⟩) (all_drop hfl) hl
      exact ⟨u, by simpa [Instr.loadAt, Instr.sureAddr] using hu, hrep'⟩
    · cases hl
  | _ => simp [kAc] at hl
theorem fieldAddr_ok {t : TypeId} {f s : Nat} {fd : Field} (hf : tfield P t f = some fd) (hs : tsize P fd.type = some (s + 1)) {x v : AV} {px : Value}
    (hx : Rep (Own X ρ) w ρ x px) (hl : kA7 fd.offset x = some v) : ∃ u, (Instr.fieldAt t px f).run P w = .ok u w ∧ Rep (Own X ρ) w ρ v u := by
  obtain ⟨fs, hu, hi⟩ := tfield_some hf
  have key : ∀ a : Addr, (Instr.fieldAt t (.pointer (some a)) f).run P w = .ok (.pointer (some (a.add fd.offset))) w := fun a => by
    simp [Instr.fieldAt, run_underlying hu, hi, Instr.sureAddr, fieldPlace, kBv hs]
  cases hx with
  | @ptr _ o ep i j a io hio he ha =>
    simp only [kA7, Option.some.injEq] at hl
    subst hl
    exact ⟨_, key a, .ptr hio he fun e => by rw [ha e, Addr.add_mid, Nat.add_assoc]⟩
  | @fptr _ k rows b off i j cf hk hown hcell hrep =>
    simp only [kA7, Option.some.injEq] at hl
    subst hl
    refine ⟨_, key _, ?_⟩
    rw [Addr.add_mid, Nat.add_assoc (off + i * k)]
    exact .fptr hk hown hcell hrep
  | _ => simp [kA7] at hl
theorem part_ok {t : TypeId} {s off : Nat} {g : Bool} (hs : tsize P t = some s) (hg : tagg P t = some g) {cs : List AV} {vs : Array Value} (hf : cs.all AV.flat = true) (hn : vs.size = cs.length)
    (hr : ∀ (i : Nat) (c : AV) (v : Value), cs[i]? = some c → vs[i]? = some v → Rep own w ρ c v) {v : AV} (hl : cut g s (cs.drop off) = some v) :
    ∃ u, (part t vs off).run P w = .ok u w ∧ Rep own w ρ v u := by
  cases g with
  | true =>
    unfold cut at hl
    simp only at hl
    split at hl
    · rename_i hle
      cases hl
      refine ⟨.agg (vs.extract off (off + s)), by simp [part, kCs hg, kBv hs], .agg ?_ ?_ fun i c u h1 h2 => ?_⟩
      · rw [List.all_eq_true] at hf ⊢
        exact fun x hx => hf x (List.mem_of_mem_drop (List.mem_of_mem_take hx))
      · simp at hle ⊢; omega
      · rw [List.getElem?_take] at h1
        split at h1
        · rename_i hi
          rw [List.getElem?_drop] at h1
          rw [Array.getElem?_extract] at h2
          split at h2
          · exact hr (off + i) c u h1 h2
          · cases h2
        · cases h1
    · cases hl
  | false =>
    unfold cut at hl
    cases hd : cs.drop off with
    | nil => simp [hd] at hl
    | cons c r =>
      simp [hd] at hl
      subst hl
      have h1 : cs[off]? = some c := by
        have := congrArg (·[0]?) hd
        simpa [List.getElem?_drop] using this
      have h2 := (List.getElem?_eq_some_iff.1 h1).1
      have h3 : vs[off]? = some vs[off] := Array.getElem?_eq_getElem (by omega)
      exact ⟨vs[off], by simp [part, kCs hg, h3], hr off c _ h1 h3⟩
theorem field_ok {t : TypeId} {f s : Nat} {fd : Field} {g : Bool} (hf : tfield P t f = some fd) (hs : tsize P fd.type = some s) (hg : tagg P fd.type = some g) {x v : AV} {px : Value}
    (hx : Rep own w ρ x px) (hl : aField g s fd.offset x = some v) : ∃ u, (Instr.field t px f).run P w = .ok u w ∧ Rep own w ρ v u := by
  obtain ⟨fs, hu, hi⟩ := tfield_some hf
  cases hx with
  | @agg _ cs vs hfl hn hr =>
    simp only [aField] at hl
    obtain ⟨u, h1, h2⟩ := part_ok (P := P) hs hg hfl hn hr hl
    exact ⟨u, by simp [Instr.field, run_underlying hu, hi, asAgg, h1], h2⟩
  | _ => simp [aField] at hl
theorem kGx {x : AV} {n m : Nat} (h : idx x n = some m) : ∃ k, x = .sc (.int k m) ∧ m < n := by
  unfold idx at h
  split at h
  · rename_i k i
    split at h
    · rename_i hi
      cases h
      exact ⟨k, by rw [Int.toNat_of_nonneg hi.1], by omega⟩
    · cases h
  · cases h
theorem Rep.int_inv {k : IntKind} {n : Int} {v : Value} (h : Rep own w ρ (.sc (.int k n)) v) : v = .int k n := by cases h; rfl
theorem indexAddr_ok {t e : TypeId} {s : Nat} (hu : P.underlying t = some (.slice e)) (hs : tsize P e = some s) {h H : kA4} (hp : h <+: H) (hr : HRep P X ρ H w) {x ix v : AV} {px pi : Value}
    (hx : Rep (Own X ρ) w ρ x px) (hi : Rep (Own X ρ) w ρ ix pi) (hl : kA5 s x ix h = some v) : ∃ u, (Instr.indexAt t px pi).run P w = .ok u w ∧ Rep (Own X ρ) w ρ v u := by
  have key : ∀ (a : Addr) (n cap m : Nat) (k : IntKind), m < n → (Instr.indexAt t (.slice (some a) n cap) (.int k m)).run P w = .ok (.pointer (some (a.add (m * s)))) w := fun a n cap m k hm => by
    have h2 : ¬ ((n : Int) ≤ m) := by omega
    simp [Instr.indexAt, asIntOf, run_underlying hu, kBv hs, hm]
  cases hx with
  | @sl _ o ep i n a cap io hio he ha =>
    simp only [kA5] at hl
    split at hl
    · rename_i ob hob
      split at hl
      · rename_i hc
        split at hl
        · rename_i m hm
          cases hl
          obtain ⟨k, rfl, hlt⟩ := kGx hm
          obtain ⟨c1, c2⟩ := hc
          have r := hr.look hp hio hob
          rw [hi.int_inv]
          refine ⟨_, key _ _ _ _ _ hlt, .ptr hio he fun ee => ?_⟩
          obtain ⟨g1, g2, g3⟩ := ha ee
          rw [g3 (by omega), Addr.add_mid, ← c2, r.k, Nat.add_mul]
          rfl
        · cases hl
      · cases hl
    · cases hl
  | @fs _ k rows a cap cf hk hc ha hown hcell hrep =>
    simp only [kA5] at hl
    split at hl
    · rename_i hks
      split at hl
      · rename_i m hm
        cases hl
        obtain ⟨kk, rfl, hlt⟩ := kGx hm
        rw [hi.int_inv]
        refine ⟨_, key _ _ _ _ _ hlt, ?_⟩
        obtain ⟨ab, ao, asp⟩ := a
        have e1 : asp = none := ha (by omega)
        subst e1
        rw [Addr.add_mid, ← hks, show ao + m * k = ao + m * k + 0 from rfl]
        exact .fptr hk hown hcell hrep
      · cases hl
    · cases hl
  | _ => simp [kA5] at hl
theorem indexArr_ok {t e : TypeId} {len s : Nat} (hu : P.underlying t = some (.array len e)) (hs : tsize P e = some s) {x ix v : AV} {px pi : Value}
    (hx : Rep (Own X ρ) w ρ x px) (hi : Rep (Own X ρ) w ρ ix pi) (hl : aIndexArr len s x ix = some v) : ∃ u, (Instr.indexAt t px pi).run P w = .ok u w ∧ Rep (Own X ρ) w ρ v u := by
  simp only [aIndexArr] at hl
  split at hl
  · rename_i m hm
    obtain ⟨k, rfl, hlt⟩ := kGx hm
    rw [hi.int_inv]
    have key : ∀ a : Addr, (Instr.indexAt t (.pointer (some a)) (.int k m)).run P w = .ok (.pointer (some (a.add (m * s)))) w := fun a => by
      simp [Instr.indexAt, asIntOf, run_underlying hu, kBv hs, hlt, Instr.sureAddr]
    cases hx with
    | @ptr _ o ep i j a io hio he ha =>
      simp only [kA7, Option.some.injEq] at hl
      subst hl
      exact ⟨_, key a, .ptr hio he fun e => by rw [ha e, Addr.add_mid, Nat.add_assoc]⟩
    | @fptr _ kk rows b off i j cf hk hown hcell hrep =>
      simp only [kA7, Option.some.injEq] at hl
      subst hl
      refine ⟨_, key _, ?_⟩
      rw [Addr.add_mid, Nat.add_assoc (off + i * kk)]
      exact .fptr hk hown hcell hrep
    | _ => simp [kA7] at hl
  · cases hl
theorem indexStr_ok {t : TypeId} (hu : P.underlying t = some .string) {x ix v : AV} {px pi : Value} (hx : Rep own w ρ x px) (hi : Rep own w ρ ix pi) (hl : aIndexStr x ix = some v) :
    ∃ u, (Instr.index t px pi).run P w = .ok u w ∧ Rep own w ρ v u := by
  unfold aIndexStr at hl
  split at hl
  · rename_i s
    split at hl
    · rename_i m hm
      split at hl
      · rename_i b hb
        cases hl
        obtain ⟨k, rfl, hlt⟩ := kGx hm
        rw [hi.int_inv]
        cases hx
        exact ⟨_, by simp [Instr.index, asIntOf, run_underlying hu, hb], .sc rfl⟩
      · cases hl
    · cases hl
  · cases hl
theorem indexAgg_ok {t e : TypeId} {len s : Nat} {g : Bool} (hu : P.underlying t = some (.array len e)) (hs : tsize P e = some s) (hg : tagg P e = some g) {x ix v : AV} {px pi : Value}
    (hx : Rep own w ρ x px) (hi : Rep own w ρ ix pi) (hl : aIndexAgg g len s x ix = some v) : ∃ u, (Instr.index t px pi).run P w = .ok u w ∧ Rep own w ρ v u := by
  unfold aIndexAgg at hl
  split at hl
  · rename_i cs
    split at hl
    · rename_i m hm
      obtain ⟨k, rfl, hlt⟩ := kGx hm
      rw [hi.int_inv]
      cases hx with
      | agg hfl hn hr =>
        obtain ⟨u, h1, h2⟩ := part_ok (P := P) hs hg hfl hn hr hl
        exact ⟨u, by simp [Instr.index, asIntOf, run_underlying hu, kBv hs, hlt, h1], h2⟩
    · cases hl
  · cases hl
end Go.Eng
