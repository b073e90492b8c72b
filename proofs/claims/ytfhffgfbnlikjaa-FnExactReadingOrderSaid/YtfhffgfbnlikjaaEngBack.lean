import Derived.Test.YtfhffgfbnlikjaaEngCall
namespace Go.Eng
set_option linter.unusedVariables false
set_option linter.unusedSimpArgs false
open Go.RowKit
variable {P : Program} {X : Nat → Prop} {own : Nat → Prop} {w : World} {ρ : RM}
inductive NF : AV → Prop
  | sc {v : Value} : NF (.sc v)
  | top : NF .top
  | sl {o ep i n : Nat} : NF (.sl o ep i n)
  | ptr {o ep i j : Nat} : NF (.ptr o ep i j)
  | agg {cs : List AV} (h : ∀ c ∈ cs, NF c) : NF (.agg cs)
  | tup {cs : List AV} (h : ∀ c ∈ cs, NF c) : NF (.tup cs)
  | fn {f : Nat} {cs : List AV} (h : ∀ c ∈ cs, NF c) : NF (.fn f cs)
theorem NF.rep {a : AV} (hn : NF a) {own own' : Nat → Prop} : ∀ v, Rep own w ρ a v → Rep own' w ρ a v := by
  induction hn with
  | sc => intro v h; cases h; exact .sc (by assumption)
  | top => intro v h; exact .top
  | sl => intro v h; cases h; exact .sl (by assumption) (by assumption) (by assumption)
  | ptr => intro v h; cases h; exact .ptr (by assumption) (by assumption) (by assumption)
  | agg _ ih =>
    intro v h
    cases h with
    | agg h1 h2 h3 => exact .agg h1 h2 fun i c u e1 e2 => ih c (List.mem_of_getElem? e1) u (h3 i c u e1 e2)
  | tup _ ih =>
    intro v h
    cases h with
    | tup h1 h2 => exact .tup h1 fun i c u e1 e2 => ih c (List.mem_of_getElem? e1) u (h2 i c u e1 e2)
  | fn _ ih =>
    intro v h
    cases h with
    | fn h1 h2 => exact .fn h1 fun i c u e1 e2 => ih c (List.mem_of_getElem? e1) u (h2 i c u e1 e2)
def HNF (h : kA4) : Prop := ∀ ob ∈ h, ∀ row ∈ ob.rows, ∀ c ∈ row, NF c
theorem matL_NF {m : AV → Nat → AV × kA4} : ∀ (l : List AV) (b : Nat), (∀ c ∈ l, ∀ b, NF (m c b).1 ∧ HNF (m c b).2) → (∀ c ∈ (kC0 m l b).1, NF c) ∧ HNF (kC0 m l b).2
  | [], b, _ => ⟨by simp [kC0], by simp [kC0, HNF]⟩
  | a :: l, b, h => by
    obtain ⟨h1, h2⟩ := h a (by simp) b
    obtain ⟨h3, h4⟩ := matL_NF l (b + (m a b).2.length) (fun c hc => h c (by simp [hc]))
    refine ⟨fun c hc => ?_, fun ob hob => ?_⟩
    · simp only [kC0, List.mem_cons] at hc
      rcases hc with rfl | hc
      · exact h1
      · exact h3 c hc
    · simp only [kC0, List.mem_append] at hob
      rcases hob with hob | hob
      · exact h2 ob hob
      · exact h4 ob hob
theorem matR_NF {m : AV → Nat → AV × kA4} : ∀ (l : List (List AV)) (b : Nat), (∀ r ∈ l, ∀ c ∈ r, ∀ b, NF (m c b).1 ∧ HNF (m c b).2) → (∀ r ∈ (kCt m l b).1, ∀ c ∈ r, NF c) ∧ HNF (kCt m l b).2
  | [], b, _ => ⟨by simp [kCt], by simp [kCt, HNF]⟩
  | r :: l, b, h => by
    obtain ⟨h1, h2⟩ := matL_NF r b (h r (by simp))
    obtain ⟨h3, h4⟩ := matR_NF l (b + (kC0 m r b).2.length) (fun c hc => h c (by simp [hc]))
    refine ⟨fun c hc => ?_, fun ob hob => ?_⟩
    · simp only [kCt, List.mem_cons] at hc
      rcases hc with rfl | hc
      · exact h1
      · exact h3 c hc
    · simp only [kCt, List.mem_append] at hob
      rcases hob with hob | hob
      · exact h2 ob hob
      · exact h4 ob hob
theorem mat_NF : ∀ (d : Nat) (a : AV), noF d a = true → ∀ b, NF (mat d a b).1 ∧ HNF (mat d a b).2 := by
  intro d
  induction d with
  | zero =>
    intro a h b
    cases a <;> simp [noF] at h
    exact ⟨.sc, by simp [mat, HNF]⟩
  | succ d ih =>
    intro a h b
    cases a <;> simp only [noF] at h <;> first | (cases h; done) | skip
    · exact ⟨.sc, by simp [mat, HNF]⟩
    · rw [List.all_eq_true] at h
      obtain ⟨h1, h2⟩ := matL_NF _ b (fun c hc => ih c (h c hc))
      exact ⟨.agg h1, h2⟩
    · rw [List.all_eq_true] at h
      obtain ⟨h1, h2⟩ := matL_NF _ b (fun c hc => ih c (h c hc))
      exact ⟨.tup h1, h2⟩
    · rw [List.all_eq_true] at h
      obtain ⟨h1, h2⟩ := matL_NF _ b (fun c hc => ih c (h c hc))
      exact ⟨.fn h1, h2⟩
    · rw [List.all_eq_true] at h
      obtain ⟨h1, h2⟩ := matR_NF _ (b + 1) (fun r hr c hc => ih c (List.all_eq_true.1 (h r hr) c hc))
      refine ⟨.sl, fun ob hob => ?_⟩
      simp only [mat, List.mem_cons] at hob
      rcases hob with rfl | hob
      · exact h1
      · exact h2 ob hob
    · rw [List.all_eq_true] at h
      obtain ⟨h1, h2⟩ := matR_NF _ (b + 1) (fun r hr c hc => ih c (List.all_eq_true.1 (h r hr) c hc))
      refine ⟨.ptr, fun ob hob => ?_⟩
      simp only [mat, List.mem_cons] at hob
      rcases hob with rfl | hob
      · exact h1
      · exact h2 ob hob
def sh (b : Nat) (ρ : RM) : RM := fun o => if b ≤ o then ρ (o - b) else none
theorem kGo {b : Nat} {ρ : RM} {o : Nat} {io : OI} (h : sh b ρ o = some io) : b ≤ o ∧ ρ (o - b) = some io := by
  unfold sh at h
  split at h
  · exact ⟨by assumption, h⟩
  · cases h
def RepN (X : Nat → Prop) (B : Nat) (w : World) (r : AV) (v : Value) : Prop :=
  ∃ ρ0 : RM, (∀ o io, ρ0 o = some io → B ≤ io.b) ∧ ∀ base, (∀ o io, ρ0 o = some io → o < (mat depth r base).2.length) ∧
    ∀ H : kA4, (∀ i ob, (mat depth r base).2[i]? = some ob → H[base + i]? = some ob) →
      HRep0 X (sh base ρ0) H w ∧ Rep (Own X (sh base ρ0)) w (sh base ρ0) (mat depth r base).1 v
theorem RepN.anyX {B : Nat} {r : AV} {v : Value} (h : RepN X B w r v) (hn : noF depth r = true) (X' : Nat → Prop) : RepN X' B w r v := by
  obtain ⟨ρ0, h1, h2⟩ := h
  refine ⟨ρ0, h1, fun base => ⟨(h2 base).1, fun H hH => ?_⟩⟩
  obtain ⟨g1, g2⟩ := (h2 base).2 H hH
  obtain ⟨n1, n2⟩ := mat_NF depth r hn base
  refine ⟨⟨fun o io e => ?_, g1.inj⟩, n1.rep v g2⟩
  obtain ⟨ob, e1, q⟩ := g1.obj o io e
  obtain ⟨e2, e3⟩ := kGo e
  have hlt := (h2 base).1 _ _ e3
  have e4 : (mat depth r base).2[o - base]? = some ((mat depth r base).2[o - base]) := List.getElem?_eq_getElem hlt
  have e5 := hH _ _ e4
  rw [show base + (o - base) = o by omega, e1] at e5
  cases e5
  refine ⟨_, e1, q.k, q.ep, q.le, q.wid, q.there, fun i j c hc => ?_, q.lt, q.thaw⟩
  obtain ⟨v, h3, h4⟩ := q.cells i j c hc
  obtain ⟨row, p1, p2⟩ := kB5 hc
  exact ⟨v, h3, (n2 _ (List.getElem_mem hlt) row (List.mem_of_getElem? p1) c (List.mem_of_getElem? p2)).rep v h4⟩
def RM.or (ρ σ : RM) : RM := fun x => match ρ x with
  | some i => some i
  | Option.none => σ x
theorem or_left {ρ σ : RM} {x : Nat} {i : OI} (h : ρ x = some i) : RM.or ρ σ x = some i := by unfold RM.or; rw [h]
theorem or_some {ρ σ : RM} {x : Nat} {i : OI} (h : RM.or ρ σ x = some i) : ρ x = some i ∨ (ρ x = none ∧ σ x = some i) := by
  unfold RM.or at h
  split at h
  · rename_i j hj; cases h; exact .inl hj
  · rename_i hj; exact .inr ⟨hj, h⟩
theorem made_of_repN {h H : kA4} (hr : HRep P X ρ H w) {w' : World} (hb : BelowD w.heap.size w w') {r : AV} {v : Value} (hn : RepN (Own X ρ) w.heap.size w' r v) (hp : h ++ (mat depth r h.length).2 <+: H)
    (hfr : ∀ o, h.length ≤ o → o < (h ++ (mat depth r h.length).2).length → ρ o = none) : Made P X ρ w h (h ++ (mat depth r h.length).2) H (mat depth r h.length).1 v w' := by
  obtain ⟨ρ0, h1, h2⟩ := hn
  obtain ⟨h3, h4⟩ := h2 h.length
  obtain ⟨g1, g2⟩ := h4 H (fun i ob e => kH1 hp (by rw [List.getElem?_append_right (by omega)]; simpa using e))
  have hdis : ∀ o io, sh h.length ρ0 o = some io → ρ o = none := fun o io e => by
    obtain ⟨e1, e2⟩ := kGo e
    have := h3 _ _ e2
    exact hfr o e1 (by simp; omega)
  have hblk : ∀ o io, sh h.length ρ0 o = some io → w.heap.size ≤ io.b := fun o io e => h1 _ _ (kGo e).2
  have hstep : Step ρ w (RM.or ρ (sh h.length ρ0)) w' :=
    ⟨hb.os, hb.tape, hb.output, hb.size, fun b hlt hno => ⟨fun ⟨x, i, e, e'⟩ => by
        rcases or_some e with e | ⟨_, e⟩
        · exact hno ⟨x, i, e, e'⟩
        · have := hblk x i e; omega, hb.block b hlt⟩,
      fun x i e => ⟨i, or_left e, Nat.le_refl _, fun _ => rfl⟩, hb.drawn⟩
  have hsh : ∀ (c : AV) (u : Value), Rep (Own (Own X ρ) (sh h.length ρ0)) w' (sh h.length ρ0) c u → Rep (Own X (RM.or ρ (sh h.length ρ0))) w' (RM.or ρ (sh h.length ρ0)) c u := fun c u hc =>
    hc.mono (fun b _ hnb => ⟨fun hh => hnb (by
      rcases hh with hh | ⟨x, i, e, e'⟩
      · exact .inl (.inl hh)
      · rcases or_some e with e | ⟨_, e⟩
        · exact .inl (.inr ⟨x, i, e, e'⟩)
        · exact .inr ⟨x, i, e, e'⟩), rfl⟩) _ (fun o io e => ⟨io, by unfold RM.or; rw [hdis o io e]; exact e, Nat.le_refl _, fun _ => rfl⟩)
  refine ⟨_, ⟨⟨fun o io e => ?_, fun x y i i' e e' hbb => ?_⟩, hr.glob.step hstep⟩, hstep, hsh _ _ g2, fun x hx => ?_⟩
  · rcases or_some e with e | ⟨_, e⟩
    · obtain ⟨ob, e1, q⟩ := hr.obj o io e
      have hbk := hb.block io.b q.lt
      refine ⟨ob, e1, q.k, q.ep, q.le, q.wid, fun y hy => ?_, fun i j c hc => ?_, by have := q.lt; have := hb.size; omega, fun hk x => by rw [World.frozen?_of_block (w := w) (a := ⟨io.b, x, none⟩) hbk]; exact q.thaw hk x⟩
      · rw [World.cell?_of_block (w := w) (a := ⟨io.b, y, none⟩) hbk, World.frozen?_of_block (w := w) (a := ⟨io.b, y, none⟩) hbk]
        exact q.there y hy
      · obtain ⟨u, e3, e4⟩ := q.cells i j c hc
        exact ⟨u, by rw [World.cell?_of_block (w := w) (a := ⟨io.b, _, none⟩) hbk]; exact e3, hstep.rep e4⟩
    · obtain ⟨ob, e1, q⟩ := g1.obj o io e
      refine ⟨ob, e1, q.k, q.ep, q.le, q.wid, q.there, fun i j c hc => ?_, q.lt, q.thaw⟩
      obtain ⟨u, e3, e4⟩ := q.cells i j c hc
      exact ⟨u, e3, hsh _ _ e4⟩
  · rcases or_some e with e | ⟨_, e⟩ <;> rcases or_some e' with e' | ⟨_, e'⟩
    · exact hr.inj x y i i' e e' hbb
    · obtain ⟨_, _, q⟩ := hr.obj x i e
      have := q.lt
      have := hblk y i' e'
      omega
    · obtain ⟨_, _, q⟩ := hr.obj y i' e'
      have := q.lt
      have := hblk x i e
      omega
    · exact g1.inj x y i i' e e' hbb
  · by_cases e : ρ x = none
    · right
      unfold RM.or at hx
      rw [e] at hx
      cases e2 : sh h.length ρ0 x with
      | none => simp [e2] at hx
      | some i =>
        obtain ⟨e3, e4⟩ := kGo e2
        have := h3 _ _ e4
        exact ⟨e3, by simp; omega⟩
    · exact .inl e
def kI3 (P : Program) (g : Nat) (args : Array Value) (w : World) (R : Ending → World → Prop) : Prop :=
  match (callFunc g args).run P w with
  | .ok (.value v) w' => R (.returned v) w'
  | .ok (.enter f as) w' => Calls P f as w' R
  | _ => False
theorem kI3.mono {g : Nat} {args : Array Value} {R R' : Ending → World → Prop} (h : kI3 P g args w R) (hr : ∀ e w', R e w' → R' e w') : kI3 P g args w R' := by
  unfold kI3 at *
  split at h
  · exact hr _ _ h
  · exact h.mono hr
  · exact h.elim
def kAs (P : Program) (g : Nat) (f : List AV → Option AV) : Prop :=
  ∀ ds r, f ds = some r → ∀ (X : Nat → Prop) (w : World) (vs : Array Value), Glob P w → vs.size = ds.length → (∀ (i : Nat) (d : AV) (v : Value), ds[i]? = some d → vs[i]? = some v → Rep (Own X RM.none) w RM.none d v) →
    kI3 P g vs w fun e w' => ∃ v, e = .returned v ∧ BelowD w.heap.size w w' ∧ RepN X w.heap.size w' r v
def GenOK (P : Program) (g : Nat) (F : List AV → kA4 → Option (AV × kA4)) : Prop :=
  ∀ as h r h', F as h = some (r, h') → ∀ (X : Nat → Prop) (ρ : RM) (w : World) (vs : Array Value), HRep P X ρ h w → vs.size = as.length → (∀ (i : Nat) (d : AV) (v : Value), as[i]? = some d → vs[i]? = some v → Rep (Own X ρ) w ρ d v) →
    kI3 P g vs w fun e w' => ∃ v, e = .returned v ∧ Wrote P X ρ w h' r v w'
def ContractOK (P : Program) (g : Nat) : Contract → Prop
  | .none => True
  | .pure f => kAs P g f
  | .gen F => GenOK P g F
def kBr (P : Program) (env : Nat → Contract) : Prop := ∀ g, ContractOK P g (env g)
theorem callPure_ok {g : Nat} {f : List AV → Option AV} (hf : kAs P g f) {h h' H : kA4} {args : List AV} {v : AV} (hc : kAb f args h = some (v, h')) (hr : HRep P X ρ H w) (hp : h' <+: H)
    (hfr : ∀ o, h.length ≤ o → o < h'.length → ρ o = none) {vs : Array Value} (hn : vs.size = args.length) (hvs : ∀ (i : Nat) (d : AV) (u : Value), args[i]? = some d → vs[i]? = some u → Rep (Own X ρ) w ρ d u) :
    h <+: h' ∧ kI3 P g vs w fun e w' => ∃ u, e = .returned u ∧ Made P X ρ w h h' H v u w' := by
  unfold kAb at hc
  split at hc
  · rename_i ds hds
    split at hc
    · rename_i r hr'
      split at hc
      · rename_i hq
        cases hc
        have hph : h <+: H := (List.prefix_append _ _).trans hp
        refine ⟨List.prefix_append _ _, ?_⟩
        have hl := (kCj hds).1
        by_cases hnf : noF depth r = true
        · refine (hf ds r hr' noX w vs hr.glob.glob (by omega) (fun i d u e1 e2 => ?_)).mono fun e w' ⟨u, he, hb, hrn⟩ => ⟨u, he, made_of_repN hr hb (hrn.anyX hnf _) hp hfr⟩
          obtain ⟨a, e3, e4⟩ := kCz hds e1
          exact snap_ok hr hph depth a d u e4 (hvs i a u e3 e2)
        · have hall : args.all (kD0 depth) = true := by simpa [hnf] using hq
          rw [List.all_eq_true] at hall
          refine (hf ds r hr' (Own X ρ) w vs hr.glob.glob (by omega) (fun i d u e1 e2 => ?_)).mono fun e w' ⟨u, he, hb, hrn⟩ => ⟨u, he, made_of_repN hr hb hrn hp hfr⟩
          obtain ⟨a, e3, e4⟩ := kCz hds e1
          exact snap_noRef (fun b hb hh => hh.elim hb (fun ⟨o, io, e, _⟩ => by cases e)) depth a d u e4 (hall a (List.mem_of_getElem? e3)) (hvs i a u e3 e2)
      · cases hc
    · cases hc
  · cases hc
end Go.Eng
