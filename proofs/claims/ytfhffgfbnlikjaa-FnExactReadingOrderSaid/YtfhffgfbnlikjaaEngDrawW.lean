import Derived.Test.YtfhffgfbnlikjaaEngDraw2
namespace Go.Eng.Wm
open Go.RowKit
variable {P : Program} {N : Nat} {X : Nat → Prop} {w : World} {ρ : RM} {A : Bool}
abbrev hk (op : Op) : HK := hkW op
abbrev kF3 := @apartW
abbrev kDk := @drawOkW
theorem set_pfx {h t : kA4} {o : Nat} {ob ob' : AObj} (e : h[o]? = some ob) : (h ++ t).set o ob' = h.set o ob' ++ t :=
  List.set_append_left _ _ (List.getElem?_eq_some_iff.1 e).1
theorem load_ext {g : Bool} {s : Nat} {a v : AV} {h : kA4} (t : kA4) (hl : kAc g s a h = some v) : kAc g s a (h ++ t) = some v := by
  unfold kAc at hl ⊢
  split at hl
  · split at hl
    · rename_i ob hob
      simp only [get_pfx hob]
      exact hl
    · cases hl
  · exact hl
  · cases hl
theorem indexAddr_ext {es : Nat} {x ix v : AV} {h : kA4} (t : kA4) (hl : kA5 es x ix h = some v) : kA5 es x ix (h ++ t) = some v := by
  unfold kA5 at hl ⊢
  split at hl
  · split at hl
    · rename_i ob hob
      simp only [get_pfx hob]
      exact hl
    · cases hl
  · exact hl
  · cases hl
theorem store_ext {s : Nat} {x y : AV} {h h' : kA4} (t : kA4) (hl : kAw s x y h = some h') : kAw s x y (h ++ t) = some (h' ++ t) := by
  unfold kAw at hl ⊢
  split at hl
  · split at hl
    · rename_i ob hob
      simp only [get_pfx hob]
      split at hl
      · rename_i hep
        rw [if_pos hep]
        split at hl
        · rename_i row hrow
          split at hl
          · rename_i hc
            cases hl
            rw [if_pos hc, set_pfx hob]
          · cases hl
        · cases hl
      · cases hl
    · cases hl
  · cases hl
theorem append_ext {st : Bool} {k b : Nat} {s x v : AV} {h h' : kA4} (t : kA4) (hlen : h'.length = h.length) (hl : kB1 st k b s x h = some (v, h')) : kB1 st k b s x (h ++ t) = some (v, h' ++ t) := by
  unfold kB1 at hl ⊢
  split at hl
  · rename_i new hnew
    simp only [src_ext t hnew]
    split at hl
    · split at hl
      · rename_i h0
        cases hl
        rw [if_pos h0]
      · split at hl
        · cases hl
          simp at hlen
        · cases hl
    · split at hl
      · rename_i ob hob
        simp only [get_pfx hob]
        split at hl
        · rename_i hc
          cases hl
          rw [if_pos hc, set_pfx hob]
        · cases hl
      · cases hl
    · cases hl
  · cases hl
theorem kHo {x : Option AV} {h h' : kA4} {v : AV} (t : kA4) {y : Option AV} (hxy : ∀ a, x = some a → y = some a) (hd : (kA0 x fun v => some (v, h)) = some (v, h')) : (kA0 y fun v => some (v, h ++ t)) = some (v, h' ++ t) := by
  obtain ⟨a, h1, h2⟩ := kAl hd
  cases h2
  rw [hxy _ h1]
  rfl
theorem stab_ext {env : Nat → Contract} {q : Bool} {tm : TM} {h h' : kA4} {op : Op} {v : AV} (t : kA4) (hs : stab op = true) (hd : kBq P env q tm h op (fun v h => some (v, h)) = some (v, h')) :
    kBq P env q tm (h ++ t) op (fun v h => some (v, h)) = some (v, h' ++ t) := by
  cases op <;> first | (cases hs; done) | skip
  · simp only [kBq] at hd ⊢
    split at hd
    · exact kHo t (fun a ha => load_ext t ha) hd
    · cases hd
  · simp only [kBq] at hd ⊢
    split at hd
    · split at hd
      · exact kHo t (fun a ha => indexAddr_ext t ha) hd
      · cases hd
    · split at hd
      · exact kHo t (fun a ha => ha) hd
      · cases hd
    · cases hd
theorem write_ext {env : Nat → Contract} {q : Bool} {tm : TM} {h h' : kA4} {op : Op} {v : AV} (t : kA4) (hw : Go.Eng.hk op = .write) (hlen : h'.length = h.length) (hd : kBq P env q tm h op (fun v h => some (v, h)) = some (v, h')) :
    kBq P env q tm (h ++ t) op (fun v h => some (v, h)) = some (v, h' ++ t) := by
  unfold Go.Eng.hk at hw
  split at hw <;> first | (cases hw; done) | skip
  · rename_i ty a x
    simp only [kBq] at hd ⊢
    split at hd
    · obtain ⟨a, h1, h2⟩ := kAl hd
      cases h2
      rw [store_ext t h1]
      rfl
    · cases hd
  · rename_i args ts
    simp only [kBq, kDo, kCu] at hd ⊢
    repeat' split at hd
    all_goals first
      | (cases hd; done)
      | (rename_i hb _ _; cases hb; done)
      | (
            obtain ⟨a, c, h1, h2⟩ := kAu hd
            cases h2
            simp only [append_ext t hlen h1, *]
            rfl)
      | skip
    all_goals (obtain ⟨a, h1, h2⟩ := kAl hd; cases h2; simp only [*]; rfl)
theorem append_grow {st : Bool} {k b : Nat} {s x v : AV} {h h' : kA4} (hl : kB1 st k b s x h = some (v, h')) : h'.length = h.length ∨
    ∃ new, aSrc st k x h = some new ∧ s = .sc (.slice none 0 0) ∧ ¬ new.length = 0 ∧ (new.length * b ≤ kBh ∧ new.length ≤ kBh) ∧ v = .sl h.length new.length 0 new.length ∧ h' = h ++ [⟨k, new⟩] := by
  unfold kB1 at hl
  split at hl
  · rename_i new hnew
    split at hl
    · split at hl
      · cases hl; exact .inl rfl
      · rename_i h0
        split at hl
        · rename_i hc
          cases hl
          exact .inr ⟨new, hnew, rfl, h0, hc, rfl, rfl⟩
        · cases hl
    · split at hl
      · split at hl
        · cases hl; exact .inl (by simp)
        · cases hl
      · cases hl
    · cases hl
  · cases hl
theorem opSG {env : Nat → Contract} {q : Bool} {o : Oper} {op : Op} (ho : o.op = op) {tm : TM} {h h' : kA4} {v : AV} (hd : kBq P env q tm h op (fun v h => some (v, h)) = some (v, h')) (hw : Go.Eng.hk op = .write) (hlen : ¬ h'.length = h.length) :
    ∃ ob, h' = h ++ [ob] ∧ ∀ (X : Nat → Prop) (ρ : RM) (w : World) (t : kA4) (r : Operand → Value), HRep P X ρ (h ++ ob :: t) w → ρ h.length = none → (∀ x ∈ op.operands.toList, Rep (Own X ρ) w ρ (ev tm x) (r x)) → kDc P o r w fun u w' => Made P X ρ w h h' (h ++ ob :: t) v u w' := by
  unfold Go.Eng.hk at hw
  split at hw <;> first | (cases hw; done) | skip
  · rename_i ty a x
    simp only [kBq] at hd
    split at hd
    · obtain ⟨a, h1, h2⟩ := kAl hd
      cases h2
      exact absurd (store_len h1) hlen
    · cases hd
  · rename_i args ts
    simp only [kBq, kDo, kCu] at hd
    split at hd
    · rename_i hb _ _; cases hb
    · rename_i t u s x _ e1 e2
      split at hd
      · rename_i e he
        split at hd
        · rename_i k b z hs hb hz
          split at hd
          · rename_i hzl
            have hargs : args = #[s, x] := by apply Array.ext'; rw [e2]
            have hts : ts = #[t, u] := by apply Array.ext'; rw [e1]
            subst hargs hts
            have hmain : ∀ (st : Bool), (if st = true then P.underlying u = some .string else ∃ e', P.underlying u = some (.slice e')) → kA3 (kB1 st (k + 1) b (ev tm s) (ev tm x) h) (fun v h => some (v, h)) = some (v, h') →
                ∃ ob, h' = h ++ [ob] ∧ ∀ (X : Nat → Prop) (ρ : RM) (w : World) (t' : kA4) (r : Operand → Value), HRep P X ρ (h ++ ob :: t') w → ρ h.length = none → (∀ y ∈ (Op.call { callee := .builtin .append, args := #[s, x], argTypes := #[t, u] }).operands.toList, Rep (Own X ρ) w ρ (ev tm y) (r y)) → kDc P o r w fun u w' => Made P X ρ w h h' (h ++ ob :: t') v u w' := fun st hst hd => by
              obtain ⟨v9, h9, h1, h2⟩ := kAu hd
              cases h2
              rcases append_grow h1 with h3 | ⟨new, g1, g2, g3, g4, rfl, rfl⟩
              · exact absurd h3 hlen
              · refine ⟨_, rfl, fun X ρ w t' r hr hn hx => ?_⟩
                have hexec : ∃ cs, (execOp r o).run P w = (builtin .append #[t, u] o.type cs (#[s, x].map r)).run P w := by
                  unfold execOp
                  simp only [ho]
                  simp only [Sem.run_bind, resolve, Sem.run_pure, Result.andThen_ok, invoke]
                  exact ⟨_, rfl⟩
                rw [show (#[s, x] : Array Operand).map r = #[r s, r x] by simp] at hexec
                obtain ⟨cs, hcs⟩ := hexec
                have hs1 := hx s (by simp [Op.operands, Call.operands])
                have hx1 := hx x (by simp [Op.operands, Call.operands])
                rw [g2] at hs1
                rw [hs1.sc_inv] at hcs
                obtain ⟨v', w', p1, p2⟩ := appendNil_ok (P := P) (X := X) (w := w) (ρ := ρ) (tx := u) (ty := o.type) (kEy he) hs hb hz hzl hst hr hx1 (src_ext _ g1) ⟨t', by simp⟩ hn g3 g4
                exact kAr (by rw [hcs]; simp only [builtin]; exact kDq p1) p2
            split at hd
            · rename_i hlk
              have hu : P.underlying u = some .string := by
                unfold lenK at hlk
                split at hlk
                · assumption
                · cases hlk
                · cases hlk
                · cases hlk
              exact hmain true (by simp [hu]) hd
            · rename_i hlk
              have hu : ∃ e', P.underlying u = some (.slice e') := by
                unfold lenK at hlk
                split at hlk
                · cases hlk
                · exact ⟨_, by assumption⟩
                · cases hlk
                · cases hlk
              exact hmain false (by simpa using hu) hd
            · cases hd
          · cases hd
        · cases hd
      · cases hd
    · rename_i hb _; cases hb
    · rename_i hb _; cases hb
    · cases hd
theorem box_ext {cs : List AV} {h h' : kA4} {v : AV} (hb : kG1 cs h = some (v, h')) : ∃ ob, h' = h ++ [ob] ∧ ∀ h2 : kA4, h2.length = h.length → kG1 cs h2 = some (v, h2 ++ [ob]) := by
  unfold kG1 at hb ⊢
  split at hb
  · rename_i hc
    cases hb
    exact ⟨_, rfl, fun h2 hl => by rw [if_pos hc, hl]⟩
  · cases hb
theorem buildSlice_ext {z : List AV} {n : Nat} {ps : List (Nat × AV)} {h h' : kA4} {v : AV} (hb : kAf z n ps h = some (v, h')) : ∃ ob, h' = h ++ [ob] ∧ ∀ h2 : kA4, h2.length = h.length → kAf z n ps h2 = some (v, h2 ++ [ob]) := by
  unfold kAf at hb ⊢
  split at hb
  · rename_i rows hr
    cases hb
    exact ⟨_, rfl, fun h2 hl => by simp only [hl]⟩
  · cases hb
theorem bind2_ext {x : kA4 → Option (AV × kA4)} {h h' : kA4} {v : AV} (hx : ∀ v h', x h = some (v, h') → ∃ ob, h' = h ++ [ob] ∧ ∀ h2 : kA4, h2.length = h.length → x h2 = some (v, h2 ++ [ob])) (hd : (kA3 (x h) fun v h => some (v, h)) = some (v, h')) :
    ∃ ob, h' = h ++ [ob] ∧ ∀ h2 : kA4, h2.length = h.length → (kA3 (x h2) fun v h => some (v, h)) = some (v, h2 ++ [ob]) := by
  obtain ⟨a, c, h1, h2⟩ := kAu hd
  cases h2
  obtain ⟨ob, e1, e2⟩ := hx _ _ h1
  exact ⟨ob, e1, fun h2 hl => by rw [e2 h2 hl]; rfl⟩
theorem alloc_ext {env : Nat → Contract} {q : Bool} {tm : TM} {h h' : kA4} {op : Op} {v : AV} (ha : isAlloc op = true) (hd : kBq P env q tm h op (fun v h => some (v, h)) = some (v, h')) :
    ∃ ob, h' = h ++ [ob] ∧ ∀ h2 : kA4, h2.length = h.length → kBq P env q tm h2 op (fun v h => some (v, h)) = some (v, h2 ++ [ob]) := by
  cases op <;> first | (cases ha; done) | skip
  · simp only [kBq] at hd ⊢
    split at hd
    · exact bind2_ext (x := fun h => kG1 _ h) (fun v h' hb => box_ext hb) hd
    · cases hd
  · simp only [kBq] at hd ⊢
    exact bind2_ext (x := fun h => kG1 _ h) (fun v h' hb => box_ext hb) hd
  · simp only [kBq] at hd ⊢
    split at hd
    · split at hd
      · split at hd
        · rename_i hc
          simp only [if_pos hc] at hd ⊢
          exact bind2_ext (x := fun h => kAf _ _ _ h) (fun v h' hb => buildSlice_ext hb) hd
        · cases hd
      · cases hd
    · cases hd
theorem kGn (op : Op) : (kF8 op = true ∧ hkW op = .write) ∨ (kF8 op = false ∧ hkW op = Go.Eng.hk op) := by
  unfold kF8 hkW
  split
  · exact .inl ⟨rfl, rfl⟩
  · rename_i h
    right
    exact ⟨rfl, rfl⟩
theorem hkW_free {op : Op} (h : hkW op = .free) : Go.Eng.hk op = .free := by
  rcases kGn op with ⟨_, e⟩ | ⟨_, e⟩
  · rw [e] at h; cases h
  · rw [← e]; exact h
theorem stab_same {env : Nat → Contract} {q : Bool} {tm : TM} {h h' : kA4} {op : Op} {v : AV} (hs : stab op = true) (hd : kBq P env q tm h op (fun v h => some (v, h)) = some (v, h')) : h' = h := by
  cases op <;> first | (cases hs; done) | skip
  all_goals
    simp only [kBq] at hd
    repeat' split at hd
    all_goals first
      | (cases hd; done)
      | (
            obtain ⟨y, h1, h2⟩ := kAl hd
            cases h2
            rfl)
theorem opEW {env : Nat → Contract} {o : Oper} {op : Op} (ho : o.op = op) {tm : TM} {h h' : kA4} {v : AV} (hd : kBq P env false tm h op (fun v h => some (v, h)) = some (v, h'))
    (hw : hkW op ≠ .write) : h <+: h' ∧ ∀ (X : Nat → Prop) (ρ : RM) (w : World) (H : kA4) (r : Operand → Value), h' <+: H → HRep P X ρ H w →
      (∀ x, h.length ≤ x → x < h'.length → ρ x = none) → (∀ x ∈ op.operands.toList, Rep (Own X ρ) w ρ (ev tm x) (r x)) → kDc P o r w fun u w' => Made P X ρ w h h' H v u w' := by
  rcases kGn op with ⟨_, e⟩ | ⟨e0, e⟩
  · exact absurd e hw
  · refine opE_plain ho hd (by rw [← e]; exact hw) fun c hc => ?_
    subst hc
    obtain ⟨callee, args, ts⟩ := c
    cases callee with
    | builtin b => exact ⟨b, rfl⟩
    | value f => cases e0
    | invoke a b => simp [kBq, kDo] at hd
theorem kBz {l : List Oper} (h : kDk A l = true) : (∀ j o, l[j]? = some o → ∀ e ∈ kCi o, e < j) ∧
    ∀ i j oi oj, i < j → l[i]? = some oi → l[j]? = some oj → ((masks l []).getD j 0).testBit i = true ∨ kF3 A l.toArray oi oj = true := by
  unfold kDk drawOkW at h
  rw [List.all_eq_true] at h
  refine ⟨fun j o ho e he => ?_, fun i j oi oj hij hi hj => ?_⟩
  · have h1 := h j (by simpa using (List.getElem?_eq_some_iff.1 ho).1)
    rw [ho] at h1
    simp only [Bool.and_eq_true, List.all_eq_true, decide_eq_true_eq] at h1
    exact h1.1 e he
  · have h1 := h j (by simpa using (List.getElem?_eq_some_iff.1 hj).1)
    rw [hj] at h1
    simp only [Bool.and_eq_true, List.all_eq_true] at h1
    have h2 := h1.2 i (by simpa using hij)
    rw [hi] at h2
    simpa using h2
theorem kB0 {ops : Array Oper} {x y : Oper} (h : kF3 A ops x y = true) : x.apart ops y = true ∧ (hk x.op = .free ∨ hk y.op = .free ∨ (hk x.op = .read ∧ hk y.op = .read) ∨ (hk x.op = .read ∧ hk y.op = .write ∧ ((stab x.op = true ∧ x.guard = none) ∨ (A = true ∧ isAlloc x.op = true))) ∨ (hk x.op = .write ∧ hk y.op = .read ∧ ((stab y.op = true ∧ y.guard = none) ∨ (A = true ∧ isAlloc y.op = true)))) := by
  unfold kF3 apartW at h
  simp only [Bool.and_eq_true] at h
  refine ⟨h.1, ?_⟩
  have h2 := h.2
  cases hx : hkW x.op <;> cases hy : hkW y.op <;> simp [hk, hx, hy] at h2 ⊢ <;> first | exact h2 | (rcases h2 with h2 | h2; exact .inl h2; exact .inr h2.1)
theorem apartH_call {ops : Array Oper} {x y : Oper} (h : kF3 A ops x y = true) (hx : hk x.op = .read) (hc : kF8 y.op = true) : stab x.op = true := by
  unfold kF3 apartW at h
  simp only [Bool.and_eq_true] at h
  have h2 := h.2
  have hy : hkW y.op = .write := by
    rcases kGn y.op with ⟨_, e⟩ | ⟨e, _⟩
    · exact e
    · rw [hc] at e; cases e
  simp [show hkW x.op = .read from hx, hy, hc] at h2
  exact h2.1
def StepA (A : Bool) (P : Program) (l : List Oper) (env : Nat → Contract) (o : Oper) (tm : TM) (h : kA4) (tm' : TM) (h' : kA4) : Prop :=
  ∃ v, tm' = kFg tm o.dst v ∧ ((kD6 l tm o = some true ∧ kBq P env false tm h o.op (fun v h => some (v, h)) = some (v, h') ∧ (kF8 o.op = true → callOk A P env tm h o.op v h')) ∨ (kD6 l tm o = some false ∧ v = und ∧ h' = h))
theorem kEt {α : Type} {p : Prop} {x : Option α} {y : α} (h : kEr p x = some y) : p ∧ x = some y := by
  unfold kEr at h
  split at h
  · exact ⟨by assumption, h⟩
  · cases h
theorem callOk_le {env : Nat → Contract} {tm : TM} {h h' : kA4} {op : Op} {v : AV} (hc : callOk A P env tm h op v h') : h.length ≤ h'.length := by
  cases A with
  | false => exact hc
  | true => exact Nat.le_of_eq hc.1.symm
theorem kHy {env : Nat → Contract} {R : Type} {tm : TM} {h : kA4} {op : Op} {K : AV → kA4 → Option R} {y : R} (hd : denOpL A P env tm h op K = some y) :
    ∃ v h', kBq P env false tm h op (fun v h => some (v, h)) = some (v, h') ∧ (kF8 op = true → callOk A P env tm h op v h') ∧ K v h' = some y := by
  unfold denOpL at hd
  split at hd
  · rw [kEq] at hd
    obtain ⟨v, h', h1, h2⟩ := kAu hd
    obtain ⟨h3, h4⟩ := kEt h2
    exact ⟨v, h', h1, fun _ => h3, h4⟩
  · rename_i he
    rw [kEq] at hd
    obtain ⟨v, h', h1, h2⟩ := kAu hd
    exact ⟨v, h', h1, (fun e => by rw [he] at e; cases e), h2⟩
theorem guardL_some {α : Type} {cl : List Seen} {p : Prop} {x : Option α} {y : α} (h : guardL cl p x = some y) : (cl = [] ∨ p) ∧ x = some y := by
  cases cl with
  | nil => exact ⟨.inl rfl, h⟩
  | cons a cl =>
    obtain ⟨h1, h2⟩ := kEt h
    exact ⟨.inr h1, h2⟩
theorem denW_len {env : Nat → Contract} {all : List Oper} {R : Type} : ∀ (os : List Oper) (acc : List Seen) (hs : List kA4) (tm : TM) (h : kA4) (K : TM → kA4 → Option R) (y : R), denW A P env all os acc hs tm h K = some y → ∃ tm' h', tm'.length = tm.length ∧ K tm' h' = some y
  | [], acc, hs, tm, h, K, y, hd => ⟨tm, h, rfl, (kEt hd).2⟩
  | o :: os, acc, hs, tm, h, K, y, hd => by
    simp only [denW] at hd
    replace hd := (guardL_some hd).2
    split at hd
    · obtain ⟨v, h', h1, _, h2⟩ := kHy hd
      obtain ⟨tm', h'', e1, e2⟩ := denW_len os _ _ _ _ _ _ h2
      exact ⟨tm', h'', by rw [e1, kE5], e2⟩
    · obtain ⟨v, h', h1, h2⟩ := kAu hd
      obtain ⟨tm', h'', e1, e2⟩ := denW_len os _ _ _ _ _ _ h2
      exact ⟨tm', h'', by rw [e1, kE5], e2⟩
theorem kIn {α : Type} {p : α → Prop} : ∀ {l : List α}, allP p l → ∀ a ∈ l, p a
  | [], _, a, h => by cases h
  | b :: l, hp, a, h => by
    rcases List.mem_cons.1 h with rfl | h
    · exact hp.1
    · exact kIn hp.2 a h
def Stays (P : Program) (env : Nat → Contract) (l : List Oper) (Ts : Nat → TM) (Hs : Nat → kA4) : Prop :=
  ∀ i o, l[i]? = some o → stab o.op = true → o.guard = none → ∃ v, Ts (i + 1) = kFg (Ts i) o.dst v ∧ ∀ q, q ≤ l.length → (∀ m om, m < q → l[m]? = some om → kDu l m om i = false) → kBq P env false (Ts i) (Hs q) o.op (fun v h => some (v, h)) = some (v, Hs q)
def look (P : Program) (env : Nat → Contract) (x : Seen) (h' : kA4) : Prop := kBq P env false x.2.1 h' x.2.2.1 (fun v h => some (v, h)) = some (x.2.2.2, h')
theorem kIh {env : Nat → Contract} {l : List Oper} {R : Type} : ∀ (os : List Oper) (k : Nat) (acc : List Seen) (hs : List kA4) (tm : TM) (h : kA4) (K : TM → kA4 → Option R) (y : R), l.length = k + os.length → (∀ i, os[i]? = l[k + i]?) → h ∈ hs → denW A P env l os acc hs tm h K = some y →
    ∃ (Ts : Nat → TM) (Hs : Nat → kA4), Ts k = tm ∧ Hs k = h ∧ (∀ i o, os[i]? = some o → StepA A P l env o (Ts (k + i)) (Hs (k + i)) (Ts (k + i + 1)) (Hs (k + i + 1))) ∧ K (Ts (k + os.length)) (Hs (k + os.length)) = some y ∧
      (∀ x ∈ acc, (∀ h' ∈ hs, look P env x h') ∧ ∀ j, j ≤ os.length → (∀ m om, k ≤ m → m < k + j → l[m]? = some om → kDu l m om x.1 = false) → look P env x (Hs (k + j))) ∧
      (∀ i o, os[i]? = some o → stab o.op = true → o.guard = none → ∃ v, Ts (k + i + 1) = kFg (Ts (k + i)) o.dst v ∧ (∀ h' ∈ hs, look P env (k + i, Ts (k + i), o.op, v) h') ∧ ∀ j, j ≤ os.length → (∀ m om, k + i ≤ m → m < k + j → l[m]? = some om → kDu l m om (k + i) = false) → look P env (k + i, Ts (k + i), o.op, v) (Hs (k + j)))
  | [], k, acc, hs, tm, h, K, y, hk, hdr, hm, hd => by
    have hso := (kEt hd).1
    have hall : ∀ x ∈ acc, ∀ h' ∈ hs, look P env x h' := fun x hx h' hh => kIn (kIn hso x hx) h' hh
    exact ⟨fun _ => tm, fun _ => h, rfl, rfl, by simp, (kEt hd).2, fun x hx => ⟨hall x hx, fun j _ _ => hall x hx h hm⟩, by simp⟩
  | o :: os, k, acc, hs, tm, h, K, y, hk, hdr, hm, hd => by
    have hmem : ∀ v h', StepA A P l env o tm h (kFg tm o.dst v) h' → h' ∈ heapsW o hs h' := fun v h' hst => by
      unfold heapsW
      split
      · rename_i hf
        obtain ⟨v', _, ⟨_, h1, _⟩ | ⟨_, _, h1⟩⟩ := hst
        · rw [(kFf (hkW_free hf) h1).1]; exact hm
        · rw [h1]; exact hm
      · split
        · rename_i hst2
          obtain ⟨v', _, ⟨_, h1, _⟩ | ⟨_, _, h1⟩⟩ := hst
          · rw [stab_same hst2 h1]; exact hm
          · rw [h1]; exact hm
        · simp
    have hsub : ∀ h', ∀ x ∈ hs, x ∈ heapsW o hs h' := fun h' x hx => by
      unfold heapsW
      split
      · exact hx
      · split
        · exact hx
        · simp [hx]
    have hko : l[k]? = some o := by
      have := hdr 0
      simpa using this.symm
    have hkk : l.length - (os.length + 1) = k := by
      simp only [List.length_cons] at hk
      omega
    simp only [denW] at hd
    rw [hkk] at hd
    obtain ⟨hcl, hd⟩ := guardL_some hd
    have hclosed : ∀ x ∈ acc, kDu l k o x.1 = true → ∀ h' ∈ hs, look P env x h' := fun x hx hc h' hh => by
      have hxm : x ∈ acc.filter fun x => kDu l k o x.1 := List.mem_filter.2 ⟨hx, hc⟩
      rcases hcl with e | hp
      · rw [e] at hxm
        cases hxm
      · exact kIn (kIn hp x hxm) h' hh
    have key : ∃ v h' acc', StepA A P l env o tm h (kFg tm o.dst v) h' ∧ denW A P env l os acc' (heapsW o hs h') (kFg tm o.dst v) h' K = some y ∧ (∀ x ∈ acc, kDu l k o x.1 = false → x ∈ acc') ∧ (stab o.op = true → o.guard = none → (k, tm, o.op, v) ∈ acc') := by
      have hf : ∀ x ∈ acc, kDu l k o x.1 = false → x ∈ acc.filter fun x => !kDu l k o x.1 := fun x hx hc => List.mem_filter.2 ⟨hx, by rw [hc]; rfl⟩
      cases hg : o.guard with
      | none =>
        rw [hg] at hd
        simp only at hd
        obtain ⟨v, h', h1, h2, h3⟩ := kHy hd
        refine ⟨v, h', _, ⟨v, rfl, .inl ⟨by simp [kD6, hg], h1, h2⟩⟩, h3, fun x hx hc => ?_, fun hs' _ => ?_⟩
        · split
          · exact List.mem_append_left _ (hf x hx hc)
          · exact hf x hx hc
        · rw [hs']; simp
      | some g =>
        obtain ⟨j, want⟩ := g
        rw [hg] at hd
        simp only at hd
        obtain ⟨v, h', h1, h2⟩ := kAu hd
        refine ⟨v, h', _, ?_, h2, hf, fun _ e => by cases e⟩
        unfold kAd at h1
        split at h1
        · rename_i b hb
          cases hbw : (b == want) with
          | true =>
            rw [hbw] at h1
            simp only [cond_true] at h1
            obtain ⟨v0, h0, p1, p2, p3⟩ := kHy h1
            simp only [Option.some.injEq, Prod.mk.injEq] at p3
            obtain ⟨rfl, rfl⟩ := p3
            exact ⟨v0, rfl, .inl ⟨by simp only [kD6, hg, hb, hbw], p1, p2⟩⟩
          | false =>
            rw [hbw] at h1
            simp only [cond_false, Option.some.injEq, Prod.mk.injEq] at h1
            obtain ⟨rfl, rfl⟩ := h1
            exact ⟨und, rfl, .inr ⟨by simp only [kD6, hg, hb, hbw], rfl, rfl⟩⟩
        · rename_i hb
          simp only [Option.some.injEq, Prod.mk.injEq] at h1
          obtain ⟨rfl, rfl⟩ := h1
          exact ⟨und, rfl, .inr ⟨by simp only [kD6, hg, hb], rfl, rfl⟩⟩
        · cases h1
    obtain ⟨v, h', acc', h1, h2, hacc, hsee⟩ := key
    obtain ⟨Ts, Hs, t1, t2, t3, t4, t5, t6⟩ := kIh os (k + 1) acc' (heapsW o hs h') (kFg tm o.dst v) h' K y (by simp only [List.length_cons] at hk; omega) (fun i => by
      have := hdr (i + 1)
      rw [show k + 1 + i = k + (i + 1) by omega]
      simpa using this) (hmem v h' h1) h2
    refine ⟨fun x => if x = k then tm else Ts x, fun x => if x = k then h else Hs x, by simp, by simp, fun i o' ho' => ?_, ?_, fun x hx => ⟨fun h'' hh => ?_, fun j hj hc => ?_⟩, fun i o' ho' hs' hg' => ?_⟩
    · match i with
      | 0 =>
        simp at ho'
        subst ho'
        simp only [Nat.add_zero, if_true]
        rw [if_neg (by omega), if_neg (by omega), t1, t2]
        exact h1
      | i + 1 =>
        have := t3 i o' (by simpa using ho')
        rw [show k + 1 + i = k + (i + 1) by omega] at this
        dsimp only
        rw [if_neg (by omega), if_neg (by omega), if_neg (by omega), if_neg (by omega)]
        exact this
    · dsimp only
      rw [if_neg (by simp), if_neg (by simp)]
      rw [show k + (o :: os).length = k + 1 + os.length by simp; omega]
      exact t4
    · cases hc : kDu l k o x.1 with
      | true => exact hclosed x hx hc h'' hh
      | false => exact (t5 x (hacc x hx hc)).1 h'' (hsub h' h'' hh)
    · dsimp only
      match j with
      | 0 =>
        rw [if_pos (by omega)]
        cases hc : kDu l k o x.1 with
        | true => exact hclosed x hx hc h hm
        | false => exact (t5 x (hacc x hx hc)).1 h (hsub h' h hm)
      | j + 1 =>
        rw [if_neg (by omega)]
        have hck : kDu l k o x.1 = false := hc k o (Nat.le_refl _) (by omega) hko
        have := (t5 x (hacc x hx hck)).2 j (by simpa using hj) fun m om a b c => hc m om (by omega) (by omega) c
        rw [show k + 1 + j = k + (j + 1) by omega] at this
        exact this
    · dsimp only
      match i with
      | 0 =>
        simp at ho'
        subst ho'
        simp only [Nat.add_zero, if_true]
        rw [if_neg (by omega), t1]
        have hx := t5 _ (hsee hs' hg')
        refine ⟨v, rfl, fun h'' hh => hx.1 h'' (hsub h' h'' hh), fun j hj hc => ?_⟩
        match j with
        | 0 => rw [if_pos (by omega)]; exact hx.1 h (hsub h' h hm)
        | j + 1 =>
          rw [if_neg (by omega)]
          have := hx.2 j (by simpa using hj) fun m om a b c => hc m om (by omega) (by omega) c
          rw [show k + 1 + j = k + (j + 1) by omega] at this
          exact this
      | i + 1 =>
        obtain ⟨v9, e1, e2, e3⟩ := t6 i o' (by simpa using ho') hs' hg'
        rw [show k + 1 + i = k + (i + 1) by omega] at e1 e2 e3
        rw [if_neg (by omega), if_neg (by omega)]
        refine ⟨v9, e1, fun h'' hh => e2 h'' (hsub h' h'' hh), fun j hj hc => ?_⟩
        match j with
        | 0 => rw [if_pos (by omega)]; exact e2 h (hsub h' h hm)
        | j + 1 =>
          rw [if_neg (by omega)]
          have := e3 j (by simpa using hj) fun m om a b c => hc m om (by omega) (by omega) c
          rw [show k + 1 + j = k + (j + 1) by omega] at this
          exact this
def isW (l : List Oper) (i : Nat) : Prop := ∃ o, l[i]? = some o ∧ hk o.op = .write
section
variable {l : List Oper} {env : Nat → Contract} {Ts : Nat → TM} {Hs : Nat → kA4}
def kCb (A : Bool) (P : Program) (l : List Oper) (env : Nat → Contract) (Ts : Nat → TM) (Hs : Nat → kA4) : Prop := ∀ i o, l[i]? = some o → StepA A P l env o (Ts i) (Hs i) (Ts (i + 1)) (Hs (i + 1))
theorem kCb.len (ht : kCb A P l env Ts Hs) : ∀ i, i ≤ l.length → (Ts i).length = (Ts 0).length
  | 0, _ => rfl
  | i + 1, h => by
    obtain ⟨v, e, _⟩ := ht i l[i] (List.getElem?_eq_getElem (by omega))
    rw [e, kE5]
    exact kCb.len ht i (by omega)
theorem kCb.same (ht : kCb A P l env Ts Hs) {i t : Nat} : ∀ j, i ≤ j → j ≤ l.length → (∀ m o, i ≤ m → m < j → l[m]? = some o → o.dst ≠ some t) → (Ts j)[t]? = (Ts i)[t]?
  | 0, h1, _, _ => by
      have : i = 0 := by omega
      subst this; rfl
  | j + 1, h1, h2, h3 => by
    by_cases e : i = j + 1
    · rw [e]
    · obtain ⟨v, e1, _⟩ := ht j l[j] (List.getElem?_eq_getElem (by omega))
      rw [e1, setD_ne (h3 j _ (by omega) (by omega) (List.getElem?_eq_getElem (by omega)))]
      exact kCb.same ht j (by omega) (by omega) fun m o a b c => h3 m o a (by omega) c
theorem kCb.step (ht : kCb A P l env Ts Hs) (_henv : kBr P env) {i : Nat} {o : Oper} (ho : l[i]? = some o) :
    (Hs i).length ≤ (Hs (i + 1)).length ∧ (hk o.op = .free → Hs (i + 1) = Hs i) ∧ (hk o.op ≠ .write → Hs i <+: Hs (i + 1)) ∧ (stab o.op = true → Hs (i + 1) = Hs i) := by
  obtain ⟨v, _, h | ⟨_, _, h⟩⟩ := ht i o ho
  · obtain ⟨_, hd, hl⟩ := h
    refine ⟨?_, fun hf => (kFf (hkW_free hf) hd).1, fun hw => (opEW rfl hd hw).1, fun hs => stab_same hs hd⟩
    rcases kGn o.op with ⟨e, _⟩ | ⟨_, e⟩
    · exact callOk_le (hl e)
    by_cases hw : hk o.op = .write
    · have hw : Go.Eng.hk o.op = .write := by rw [← e]; exact hw
      unfold Go.Eng.hk at hw
      split at hw <;> first | (cases hw; done) | skip
      · rename_i t a x e
        rw [e] at hd
        simp only [kBq] at hd
        split at hd
        · obtain ⟨h', h1, h2⟩ := kAl hd
          cases h2
          exact Nat.le_of_eq (store_len h1).symm
        · cases hd
      · rename_i args ts e
        rw [e] at hd
        simp only [kBq, kDo, kCu] at hd
        repeat' split at hd
        all_goals first
          | (cases hd; done)
          | (rename_i hb _ _; cases hb; done)
          | (
                obtain ⟨a, c, h1, h2⟩ := kAu hd
                cases h2
                exact append_len h1)
          | skip
        all_goals (obtain ⟨a, h1, h2⟩ := kAl hd; exact Nat.le_of_eq (congrArg List.length (Prod.mk.inj (Option.some.inj h2)).2))
    · exact (opEW rfl hd hw).1.length_le
  · rw [h]
    exact ⟨Nat.le_refl _, fun _ => rfl, fun _ => List.prefix_refl _, fun _ => rfl⟩
theorem kCb.mono (ht : kCb A P l env Ts Hs) (henv : kBr P env) {i : Nat} : ∀ j, i ≤ j → j ≤ l.length → (Hs i).length ≤ (Hs j).length
  | 0, h1, _ => by
      have : i = 0 := by omega
      subst this; exact Nat.le_refl _
  | j + 1, h1, h2 => by
    by_cases e : i = j + 1
    · rw [e]; exact Nat.le_refl _
    · exact Nat.le_trans (kCb.mono ht henv j (by omega) (by omega)) (ht.step henv (List.getElem?_eq_getElem (show j < l.length by omega))).1
theorem kCb.pre (ht : kCb A P l env Ts Hs) (henv : kBr P env) {i : Nat} : ∀ j, i ≤ j → j ≤ l.length → (∀ m, i ≤ m → m < j → ¬ isW l m) → Hs i <+: Hs j
  | 0, h1, _, _ => by
      have : i = 0 := by omega
      subst this; exact List.prefix_refl _
  | j + 1, h1, h2, h3 => by
    by_cases e : i = j + 1
    · rw [e]; exact List.prefix_refl _
    · have hj : l[j]? = some (l[j]'(by omega)) := List.getElem?_eq_getElem _
      exact (kCb.pre ht henv j (by omega) (by omega) fun m a b => h3 m a (by omega)).trans ((ht.step henv hj).2.2.1 fun hw => h3 j (by omega) (by omega) ⟨_, hj, hw⟩)
theorem kCx (l : List Oper) : ∀ (d k : Nat), k + d = l.length → ∃ q, k ≤ q ∧ q ≤ l.length ∧ (∀ m, k ≤ m → m < q → ¬ isW l m) ∧ (q < l.length → isW l q)
  | 0, k, h => ⟨k, Nat.le_refl _, by omega, fun m a b => by omega, fun hh => by omega⟩
  | d + 1, k, h => by
    by_cases hw : isW l k
    · exact ⟨k, Nat.le_refl _, by omega, fun m a b => by omega, fun _ => hw⟩
    · obtain ⟨q, h1, h2, h3, h4⟩ := kCx l d (k + 1) (by omega)
      refine ⟨q, by omega, h2, fun m a b => ?_, h4⟩
      by_cases e : m = k
      · subst e; exact hw
      · exact h3 m (by omega) b
def tailH (Hs : Nat → kA4) : Nat → Nat → kA4
  | _, 0 => []
  | q, d + 1 => (Hs (q + 1)).drop (Hs q).length ++ tailH Hs (q + 1) d
def Es (A : Bool) (l : List Oper) (Hs : Nat → kA4) (q : Nat) : kA4 := match A with | true => tailH Hs q (l.length - q) | false => []
theorem Es_last : Es A l Hs l.length = [] := by
  unfold Es
  cases A with
  | true => rw [Nat.sub_self]; rfl
  | false => rfl
theorem Es_next (hA : A = true) {i : Nat} (hi : i < l.length) : Es A l Hs i = (Hs (i + 1)).drop (Hs i).length ++ Es A l Hs (i + 1) := by
  subst hA
  unfold Es
  simp only
  rw [show l.length - i = (l.length - (i + 1)) + 1 by omega]
  rfl
theorem Es_write (hA : A = true) {i : Nat} (hi : i < l.length) (hl : (Hs (i + 1)).length = (Hs i).length) : Es A l Hs (i + 1) = Es A l Hs i := by
  rw [Es_next hA hi, ← hl, List.drop_length, List.nil_append]
theorem Es_same (hA : A = true) {i : Nat} (hi : i < l.length) (hp : Hs i <+: Hs (i + 1)) : Hs (i + 1) ++ Es A l Hs (i + 1) = Hs i ++ Es A l Hs i := by
  obtain ⟨t, ht⟩ := hp
  rw [Es_next hA hi, ← ht, List.drop_left, List.append_assoc]
theorem Es_new (ht : kCb A P l env Ts Hs) (henv : kBr P env) (hA : A = true) {i : Nat} (hi : i < l.length) {x : Nat} (h1 : (Hs i).length ≤ x) (h2 : x < (Hs (i + 1)).length) : ∀ d q, q + d = i → (Hs q ++ Es A l Hs q)[x]? = (Hs (i + 1))[x]?
  | 0, q, e => by
    have e : q = i := by omega
    subst e
    rw [Es_next hA hi, List.getElem?_append_right h1, List.getElem?_append_left (by simp; omega), List.getElem?_drop]
    congr 1
    omega
  | d + 1, q, e => by
    have hm := ht.mono henv (i := q + 1) i (by omega) (by omega)
    have h0 := (ht.step henv (List.getElem?_eq_getElem (show q < l.length by omega))).1
    rw [← Es_new ht henv hA hi h1 h2 d (q + 1) (by omega), Es_next hA (by omega), List.getElem?_append_right (by omega), List.getElem?_append_right (by rw [List.length_drop]; omega), List.getElem?_append_right (by omega), List.length_drop]
    congr 1
    omega
theorem Es_pre (ht : kCb A P l env Ts Hs) (henv : kBr P env) (hA : A = true) {i : Nat} : ∀ j, i ≤ j → j ≤ l.length → (∀ m, i ≤ m → m < j → ¬ isW l m) → Hs j ++ Es A l Hs j = Hs i ++ Es A l Hs i
  | 0, h1, _, _ => by
      have : i = 0 := by omega
      subst this; rfl
  | j + 1, h1, h2, h3 => by
    by_cases e : i = j + 1
    · rw [e]
    · have hj : l[j]? = some (l[j]'(by omega)) := List.getElem?_eq_getElem _
      rw [Es_same hA (by omega) ((ht.step henv hj).2.2.1 fun hw => h3 j (by omega) (by omega) ⟨_, hj, hw⟩)]
      exact Es_pre ht henv hA j (by omega) (by omega) fun m a b => h3 m a (by omega)
theorem Es_pfx (ht : kCb A P l env Ts Hs) (henv : kBr P env) {i : Nat} (j : Nat) (h1 : i ≤ j) (h2 : j ≤ l.length) (h3 : ∀ m, i ≤ m → m < j → ¬ isW l m) : Hs i ++ Es A l Hs i <+: Hs j ++ Es A l Hs j := by
  cases hA : A with
  | true => subst hA; rw [Es_pre ht henv rfl j h1 h2 h3]; exact List.prefix_refl _
  | false => subst hA; simp only [Es, List.append_nil]; exact ht.pre henv j h1 h2 h3
structure Inv (A : Bool) (P : Program) (X : Nat → Prop) (l : List Oper) (Ts : Nat → TM) (Hs : Nat → kA4) (ρ0 : RM) (w0 : World) (D : Nat → Prop) (a : Act) (w : World) (ρ : RM) : Prop where
  closed : ∀ j o, l[j]? = some o → D j → ∀ e ∈ kCi o, D e
  step : Step ρ0 w0 ρ w
  defers : a.defers = []
  heap : ∃ q, q ≤ l.length ∧ (∀ i, i < q → isW l i → D i) ∧ (q < l.length → isW l q ∧ ¬ D q) ∧ HRep P X ρ (Hs q ++ Es A l Hs q) w ∧
    (A = true → ∀ i, i < l.length → ¬ D i → ∀ x, (Hs i).length ≤ x → x < (Hs (i + 1)).length → (Hs q ++ Es A l Hs q)[x]? = (Hs (i + 1))[x]?)
  news : ∀ i, i < l.length → ¬ D i → ∀ x, (Hs i).length ≤ x → x < (Hs (i + 1)).length → ρ x = none
  tsize : a.tmps.size = (Ts 0).length
  slots : ∀ (j : Nat), j ≤ l.length → ∀ (t : Nat), (j = l.length ∨ (¬ D j ∧ ∃ o, l[j]? = some o ∧ t ∈ o.looksAt l.toArray)) → (∀ i o, i < j → l[i]? = some o → o.dst = some t → D i) →
    Rep (Own X ρ) w ρ ((Ts j).getD t und) (a.tmps.getD t undef)
theorem callN {env : Nat → Contract} (henv : kBr P env) {o : Oper} {op : Op} (ho : o.op = op) {tm : TM} {h h' t : kA4} {v : AV} (hlen : h'.length = h.length)
    (hext : ∀ t, kBq P env false tm (h ++ t) op (fun v h => some (v, h)) = some (v, h' ++ t))
    {r : Operand → Value} (hr : HRep P X ρ (h ++ t) w) (hx : ∀ x ∈ op.operands.toList, Rep (Own X ρ) w ρ (ev tm x) (r x)) :
    kDc P o r w fun u w' => ∃ ρ', HRep P X ρ' (h' ++ t) w' ∧ Step ρ w ρ' w' ∧ Rep (Own X ρ') w' ρ' v u ∧ ∀ x, h.length ≤ x → x < (h ++ t).length → ρ x = none → ρ' x = none := by
  obtain ⟨f, hf⟩ : ∃ f : Nat → AObj → AObj, f = fun j ob => match ρ (h.length + j) with | some _ => ob | none => ⟨0, [[und]]⟩ := ⟨_, rfl⟩
  have hget : ∀ j, (t.mapIdx f)[j]? = (t[j]?).map (f j) := fun j => List.getElem?_mapIdx
  have hbad : ∀ {own : Nat → Prop} {w9 : World} {ρ9 : RM} {io : OI}, ORep own w9 ρ9 io ⟨0, [[und]]⟩ → False := fun hb => by
    have h1 := (hb.wid [und] (by simp)).1
    have h2 := hb.k
    simp at h1 h2
    omega
  have hr1 : HRep P X ρ (h ++ t.mapIdx f) w := by
    refine ⟨⟨fun x io e => ?_, hr.inj⟩, hr.glob⟩
    obtain ⟨ob, e1, e2⟩ := hr.obj x io e
    refine ⟨ob, ?_, e2⟩
    rcases Nat.lt_or_ge x h.length with hlt | hge
    · rw [List.getElem?_append_left hlt] at e1 ⊢
      exact e1
    · rw [List.getElem?_append_right hge] at e1 ⊢
      rw [hget, e1, hf]
      have : h.length + (x - h.length) = x := by omega
      simp only [Option.map_some, this, e]
  refine (opS (X := X) (q := false) henv ho (hext _) hr1 hx).mono fun u w' hw => ?_
  obtain ⟨ρ', p1, p2, p3⟩ := hw
  refine ⟨ρ', ⟨⟨fun x io e => ?_, p1.inj⟩, p1.glob⟩, p2, p3, fun x h1 h2 h3 => ?_⟩
  · obtain ⟨ob, e1, e2⟩ := p1.obj x io e
    rcases Nat.lt_or_ge x h'.length with hlt | hge
    · rw [List.getElem?_append_left hlt] at e1
      exact ⟨ob, by rw [List.getElem?_append_left hlt]; exact e1, e2⟩
    · rw [List.getElem?_append_right hge, hget] at e1
      cases e3 : t[x - h'.length]? with
      | none => rw [e3] at e1; cases e1
      | some ob0 =>
        rw [e3, hf] at e1
        have : h.length + (x - h'.length) = x := by omega
        simp only [Option.map_some, this, Option.some.injEq] at e1
        cases e4 : ρ x with
        | none =>
          rw [e4] at e1
          simp only at e1
          rw [← e1] at e2
          exact (hbad e2).elim
        | some io0 =>
          rw [e4] at e1
          simp only at e1
          exact ⟨ob, by rw [List.getElem?_append_right hge, e3, e1], e2⟩
  · cases e : ρ' x with
    | none => rfl
    | some io =>
      exfalso
      obtain ⟨ob, e1, e2⟩ := p1.obj x io e
      rw [List.getElem?_append_right (by omega), hget] at e1
      cases e3 : t[x - h'.length]? with
      | none => rw [e3] at e1; cases e1
      | some ob0 =>
        rw [e3, hf] at e1
        have : h.length + (x - h'.length) = x := by omega
        simp only [Option.map_some, this, h3, Option.some.injEq] at e1
        rw [← e1] at e2
        exact hbad e2
theorem kDf {ops : Array Oper} {x y : Oper} {t : Nat} (h : x.apart ops y = true) (hx : x.dst = some t) : t ∉ y.looksAt ops ∧ y.dst ≠ some t :=
  ⟨(Oper.apart_spec h).1 t hx, (Oper.apart_spec h).2.1 t hx⟩
theorem Inv.next (hdk : kDk A l = true) (ht : kCb A P l env Ts Hs) {ρ0 ρ ρ' : RM} {w0 w w' : World} {D D' : Nat → Prop} {a : Act} (hi : Inv A P X l Ts Hs ρ0 w0 D a w ρ) {i : Nat} {o : Oper} (ho : l[i]? = some o) (hD : ¬ D i) (hready : ∀ e ∈ kCi o, D e)
    (hD' : ∀ x, D' x ↔ D x ∨ x = i) {v : AV} {u : Value} (hts : Ts (i + 1) = kFg (Ts i) o.dst v) (hs : Step ρ w ρ' w') (hu : Rep (Own X ρ') w' ρ' v u)
    (hheap : ∃ q, q ≤ l.length ∧ (∀ i, i < q → isW l i → D' i) ∧ (q < l.length → isW l q ∧ ¬ D' q) ∧ HRep P X ρ' (Hs q ++ Es A l Hs q) w' ∧
      (A = true → ∀ i, i < l.length → ¬ D' i → ∀ x, (Hs i).length ≤ x → x < (Hs (i + 1)).length → (Hs q ++ Es A l Hs q)[x]? = (Hs (i + 1))[x]?))
    (hnews : ∀ m, m < l.length → ¬ D' m → ∀ x, (Hs m).length ≤ x → x < (Hs (m + 1)).length → ρ' x = none) : Inv A P X l Ts Hs ρ0 w0 D' (a.put o.dst u) w' ρ' := by
  obtain ⟨dk1, dk2⟩ := kBz hdk
  have hilt := (List.getElem?_eq_some_iff.1 ho).1
  refine ⟨fun j oj hj hDj e he => ?_, hi.step.trans hs, by rw [St.put_defers]; exact hi.defers, hheap, hnews, by cases o.dst <;> simp [Act.put, hi.tsize], fun j hj t hr hwr => ?_⟩
  · rw [hD'] at hDj ⊢
    rcases hDj with h | rfl
    · exact .inl (hi.closed j oj hj h e he)
    · rw [ho] at hj; cases hj; exact .inl (hready e he)
  · by_cases hdt : o.dst = some t
    ·
      have hij : i < j := by
        rcases hr with hr | ⟨hnd, oj, hoj, hlook⟩
        · omega
        · rcases Nat.lt_trichotomy i j with h | h | h
          · exact h
          · subst h; exact absurd ((hD' i).2 (.inr rfl)) hnd
          · rcases dk2 j i oj o h hoj ho with hb | hap
            · have := kCm hi.closed ho hready hb (by omega)
              exact absurd ((hD' j).2 (.inl this)) hnd
            · exact absurd hlook ((Oper.apart_spec (kB0 hap).1).2.2 t hdt)
      have hsame : (Ts j)[t]? = (Ts (i + 1))[t]? := ht.same j (by omega) hj fun m om h1 h2 hm hdm => by
        have hDm : D m := by
          rcases (hD' m).1 (hwr m om h2 hm hdm) with h | h
          · exact h
          · omega
        rcases dk2 i m o om (by omega) ho hm with hb | hap
        · exact hD (kFd hi.closed hDm hb)
        · exact (kDf (kB0 hap).1 hdt).2 hdm
      rw [List.getD_eq_getElem?_getD, hsame, hts, hdt]
      simp only [kFg, Act.put]
      by_cases hlt : t < (Ts i).length
      · rw [List.getElem?_set_self hlt, Array.getD_eq_getD_getElem?, Array.getElem?_setIfInBounds, if_pos rfl, if_pos (by rw [hi.tsize, ← ht.len i (by omega)]; exact hlt)]
        exact hu
      · rw [List.getElem?_eq_none (by simp; omega), Array.getD_eq_getD_getElem?, Array.getElem?_eq_none (by simp; rw [hi.tsize, ← ht.len i (by omega)]; omega)]
        exact kFx
    · have hsame : (a.put o.dst u).tmps.getD t undef = a.tmps.getD t undef := by
        cases hd : o.dst with
        | none => rfl
        | some d =>
          rw [hd] at hdt
          simp only [Act.put]
          rw [Array.getD_eq_getD_getElem?, Array.getElem?_setIfInBounds, if_neg (fun e => hdt (by rw [e])), ← Array.getD_eq_getD_getElem?]
      rw [hsame]
      refine hs.rep (hi.slots j hj t ?_ fun m om hm1 hm2 hm3 => ?_)
      · rcases hr with hr | ⟨hnd, h⟩
        · exact .inl hr
        · exact .inr ⟨fun h' => hnd ((hD' j).2 (.inl h')), h⟩
      · rcases (hD' m).1 (hwr m om hm1 hm2 hm3) with h | rfl
        · exact h
        · rw [ho] at hm2; cases hm2; exact absurd hm3 hdt
theorem Inv.wanted {ρ0 ρ : RM} {w0 w : World} {D : Nat → Prop} {a : Act} (hdk : kDk A l = true) (ht : kCb A P l env Ts Hs) (hi : Inv A P X l Ts Hs ρ0 w0 D a w ρ) {i : Nat} {o : Oper} (ho : l[i]? = some o) (hD : ¬ D i) (hready : ∀ e ∈ kCi o, D e) {b : Bool} (hg : kD6 l (Ts i) o = some b) :
    Region.wanted o (yielded l.toArray a.tmps) = b := by
  obtain ⟨dk1, dk2⟩ := kBz hdk
  have hilt := (List.getElem?_eq_some_iff.1 ho).1
  unfold kD6 at hg
  unfold Region.wanted
  split at hg
  · rename_i hgd; rw [hgd]; simpa using hg
  · rename_i j want hgd
    rw [hgd]
    simp only
    have key : ∀ d oj, l[j]? = some oj → oj.dst = some d → (Ts i).getD d .top ≠ .top → ∃ x, a.tmps[d]? = some x ∧ Rep (Own X ρ) w ρ ((Ts i).getD d .top) x := fun d oj hoj hd hne => by
      have hlt : d < (Ts i).length := by
        have hd2 : ∃ n : Nat, n = d := ⟨d, rfl⟩
        obtain ⟨n, rfl⟩ := hd2
        by_cases hlt : n < (Ts i).length
        · exact hlt
        · rw [List.getD_eq_getElem?_getD, List.getElem?_eq_none (by omega)] at hne; exact (hne rfl).elim
      have hlook : d ∈ o.looksAt l.toArray := by
        unfold Oper.looksAt
        rw [hgd]
        simp [hoj, hd]
      have hsl := hi.slots i (by omega) d (.inr ⟨hD, o, ho, hlook⟩) fun m om h1 h2 h3 => by
        rcases dk2 m i om o h1 h2 ho with hb | hap
        · exact kCm hi.closed ho hready hb (by omega)
        · exact absurd hlook (kDf (kB0 hap).1 h3).1
      have hsz : d < a.tmps.size := by rw [hi.tsize, ← ht.len i (by omega)]; exact hlt
      refine ⟨a.tmps[d], Array.getElem?_eq_getElem hsz, ?_⟩
      rw [List.getD_eq_getElem?_getD, List.getElem?_eq_getElem hlt] at hsl ⊢
      rw [Array.getD_eq_getD_getElem?, Array.getElem?_eq_getElem hsz] at hsl
      exact hsl
    split at hg
    · rename_i c hc
      cases hg
      unfold yv at hc
      split at hc
      · rename_i oj hoj
        split at hc
        · rename_i d hd
          obtain ⟨x, h1, h2⟩ := key d oj hoj hd (by rw [hc]; intro e; cases e)
          rw [hc] at h2
          have h3 := h2.bool_inv
          unfold yielded
          simp [hoj, hd, h1, h3]
        · cases hc
      · cases hc
    · rename_i hc
      cases hg
      unfold yv at hc
      split at hc
      · rename_i oj hoj
        split at hc
        · rename_i d hd
          obtain ⟨x, h1, h2⟩ := key d oj hoj hd (by rw [hc]; intro e; cases e)
          rw [hc] at h2
          have h3 : ∃ vs, x = .tuple vs := by cases h2; exact ⟨_, rfl⟩
          obtain ⟨vs, h3⟩ := h3
          unfold yielded
          simp [hoj, hd, h1, h3]
        · cases hc
      · cases hc
    · cases hg
theorem Inv.operand {ρ0 ρ : RM} {w0 w : World} {D : Nat → Prop} {a : Act} (hdk : kDk A l = true) (hi : Inv A P X l Ts Hs ρ0 w0 D a w ρ) {i : Nat} {o : Oper} (ho : l[i]? = some o) (hD : ¬ D i) (hready : ∀ e ∈ kCi o, D e) :
    ∀ x ∈ o.op.operands.toList, Rep (Own X ρ) w ρ (ev (Ts i) x) (a.eval x) := fun x hx => by
  obtain ⟨dk1, dk2⟩ := kBz hdk
  have hilt := (List.getElem?_eq_some_iff.1 ho).1
  cases x with
  | tmp t =>
    have hlook : t ∈ o.looksAt l.toArray := by
      unfold Oper.looksAt
      simp only [List.mem_append, List.mem_filterMap]
      exact .inl ⟨.tmp t, hx, rfl⟩
    exact hi.slots i (by omega) t (.inr ⟨hD, o, ho, hlook⟩) fun m om h1 h2 h3 => by
      rcases dk2 m i om o h1 h2 ho with hb | hap
      · exact kCm hi.closed ho hready hb (by omega)
      · exact absurd hlook (kDf (kB0 hap).1 h3).1
  | const v => exact ofVal_rep v
  | global g => exact .top
  | func f => exact .fn (by rfl) fun i c v h => by simp at h
theorem Inv.op (henv : kBr P env) (hdk : kDk A l = true) (ht : kCb A P l env Ts Hs) (hst : Stays P env l Ts Hs) {ρ0 ρ : RM} {w0 w : World} {D D' : Nat → Prop} {a : Act} (hi : Inv A P X l Ts Hs ρ0 w0 D a w ρ) {i : Nat} {o : Oper} (ho : l[i]? = some o) (hD : ¬ D i) (hready : ∀ e ∈ kCi o, D e)
    (hD' : ∀ x, D' x ↔ D x ∨ x = i) {Q : Exit → Act → World → Prop} {K : Act → World → Prop} (hk' : ∀ a' w' ρ', Inv A P X l Ts Hs ρ0 w0 D' a' w' ρ' → K a' w') : wpOp P l.toArray Q i K a w := by
  obtain ⟨dk1, dk2⟩ := kBz hdk
  have hilt := (List.getElem?_eq_some_iff.1 ho).1
  have hord : ∀ m om, m < i → l[m]? = some om → D m ∨ kF3 A l.toArray om o = true := fun m om h1 h2 => (dk2 m i om o h1 h2 ho).imp (fun hb => kCm hi.closed ho hready hb (by omega)) id
  have hord2 : ∀ m om, i < m → l[m]? = some om → ¬ D m ∨ kF3 A l.toArray o om = true := fun m om h1 h2 => by
    rcases dk2 i m o om h1 ho h2 with hb | hap
    · exact .inl fun hDm => hD (kFd hi.closed hDm hb)
    · exact .inr hap
  unfold wpOp
  have hoa : l.toArray[i]? = some o := by simpa using ho
  rw [hoa]
  simp only
  obtain ⟨v, hts, ⟨hg, hd, hlen⟩ | ⟨hg, hv, hh⟩⟩ := ht i o ho
  · rw [hi.wanted hdk ht ho hD hready hg]
    simp only [if_true]
    left
    obtain ⟨q, q1, q2, q3, q4, q5⟩ := hi.heap
    have hops := hi.operand hdk ho hD hready
    have still : A = true → ∀ m, m < l.length → ¬ D' m → ∀ x, (Hs m).length ≤ x → x < (Hs (m + 1)).length → (Hs q ++ Es A l Hs q)[x]? = (Hs (m + 1))[x]? := fun hA m hm hnm x hx1 hx2 => q5 hA m hm (fun h' => hnm ((hD' m).2 (.inl h'))) x hx1 hx2
    have fresh : ∀ (ρ' : RM), (∀ x, ρ' x ≠ none → ρ x ≠ none ∨ ((Hs i).length ≤ x ∧ x < (Hs (i + 1)).length)) → ∀ m, m < l.length → ¬ D' m → ∀ x, (Hs m).length ≤ x → x < (Hs (m + 1)).length → ρ' x = none := fun ρ' p4 m hm hnm x hx1 hx2 => by
      have hDm : ¬ D m := fun h' => hnm ((hD' m).2 (.inl h'))
      have hne : m ≠ i := fun h' => hnm ((hD' m).2 (.inr h'))
      have hρ := hi.news m hm hDm x hx1 hx2
      cases hx : ρ' x with
      | none => rfl
      | some io =>
        rcases p4 x (by rw [hx]; intro e; cases e) with h | ⟨h1, h2⟩
        · exact absurd hρ h
        · rcases Nat.lt_or_gt_of_ne hne with h | h
          · have := ht.mono henv i (show m + 1 ≤ i by omega) (by omega)
            omega
          · have := ht.mono henv m (show i + 1 ≤ m by omega) (by omega)
            omega
    cases hkind : hk o.op with
    | write =>
      have hiw : isW l i := ⟨o, ho, hkind⟩
      have hqi : q = i := by
        rcases Nat.lt_trichotomy q i with h | h | h
        · obtain ⟨⟨oq, hoq, hkq⟩, hnq⟩ := q3 (by omega)
          rcases hord q oq h hoq with h' | h'
          · exact absurd h' hnq
          · have := (kB0 h').2
            rw [hkq, hkind] at this
            simp at this
        · exact h
        · exact absurd (q2 i h hiw) hD
      subst hqi
      obtain ⟨q', r1, r2, r3, r4⟩ := kCx l (l.length - (q + 1)) (q + 1) (by omega)
      have hdone : ∀ m, m < q' → isW l m → D' m := fun m hm hmw => by
        rcases Nat.lt_trichotomy m q with h | h | h
        · exact (hD' m).2 (.inl (q2 m h hmw))
        · exact (hD' m).2 (.inr h)
        · exact absurd hmw (r3 m (by omega) hm)
      have hnot : q' < l.length → isW l q' ∧ ¬ D' q' := fun hlt => ⟨r4 hlt, fun hDq => by
        obtain ⟨oq, hoq, hkq⟩ := r4 hlt
        rcases (hD' q').1 hDq with h | h
        · rcases hord2 q' oq (by omega) hoq with h' | h'
          · exact h' h
          · have := (kB0 h').2
            rw [hkq, hkind] at this
            simp at this
        · omega⟩
      cases hA : A with
      | false =>
        have hE : ∀ q, Es A l Hs q = [] := fun q => by rw [hA]; rfl
        rw [hE, List.append_nil] at q4
        refine (opS (X := X) (q := false) henv rfl hd q4 hops).wp fun u w' hw => ?_
        obtain ⟨ρ', p1, p2, p3⟩ := hw
        refine hk' _ _ ρ' (hi.next hdk ht ho hD hready hD' hts p2 p3 ⟨q', r2, hdone, hnot, ?_, fun e => by rw [hA] at e; cases e⟩ fun m hm hnm x hx1 hx2 => ?_)
        · rw [hE, List.append_nil]
          exact p1.pfx (ht.pre henv q' r1 r2 r3)
        · rcases Nat.lt_trichotomy m q with h | h | h
          · have hDm : ¬ D m := fun h' => hnm ((hD' m).2 (.inl h'))
            have hom : l[m]? = some (l[m]'hm) := List.getElem?_eq_getElem hm
            rcases hord m _ h hom with h' | h'
            · exact absurd h' hDm
            · have := (kB0 h').2
              rw [hkind] at this
              have hf : Hs (m + 1) = Hs m := by
                rcases this with h1 | h1 | h1 | h1 | h1
                · exact (ht.step henv hom).2.1 h1
                · cases h1
                · cases h1.2
                · rcases h1.2.2 with h2 | h2
                  · exact (ht.step henv hom).2.2.2 h2.1
                  · rw [hA] at h2; cases h2.1
                · cases h1.2.1
              rw [hf] at hx2
              omega
          · exact absurd ((hD' m).2 (.inr h)) hnm
          · have h1 := ht.mono henv m (show q + 1 ≤ m by omega) (by omega)
            exact p1.fresh (by omega)
      | true =>
        by_cases hc : kF8 o.op = true
        ·
          have hco := hlen hc
          rw [hA] at hco
          obtain ⟨hll, hext⟩ := hco
          refine (callN (X := X) henv rfl hll hext q4 hops).wp fun u w' hw => ?_
          obtain ⟨ρ', p1, p2, p3, p4⟩ := hw
          have hG : Hs q' ++ Es A l Hs q' = Hs (q + 1) ++ Es A l Hs q := by
            rw [Es_pre ht henv hA q' r1 r2 r3, Es_write hA hilt hll]
          have hold : ∀ m, m < l.length → ¬ D' m → ∀ x, (Hs m).length ≤ x → x < (Hs (m + 1)).length → ρ' x = none ∧ (Hs (q + 1) ++ Es A l Hs q)[x]? = (Hs (m + 1))[x]? := fun m hm hnm x hx1 hx2 => by
            have g1 := still hA m hm hnm x hx1 hx2
            have g2 := hi.news m hm (fun h' => hnm ((hD' m).2 (.inl h'))) x hx1 hx2
            rw [List.getElem?_eq_getElem hx2] at g1
            have gx : (Hs q).length ≤ x := by
              rcases Nat.lt_trichotomy m q with h | h | h
              · exfalso
                have hDm : ¬ D m := fun h' => hnm ((hD' m).2 (.inl h'))
                have hom : l[m]? = some (l[m]'hm) := List.getElem?_eq_getElem hm
                rcases hord m _ h hom with h' | h'
                · exact hDm h'
                · have hs9 := (kB0 h').2
                  rw [hkind] at hs9
                  have hf : Hs (m + 1) = Hs m := by
                    rcases hs9 with h1 | h1 | h1 | h1 | h1
                    · exact (ht.step henv hom).2.1 h1
                    · cases h1
                    · cases h1.2
                    · exact (ht.step henv hom).2.2.2 (apartH_call h' h1.1 hc)
                    · cases h1.2.1
                  rw [hf] at hx2
                  omega
              · exact absurd ((hD' m).2 (.inr h)) hnm
              · have := ht.mono henv m (show q ≤ m by omega) (by omega)
                omega
            refine ⟨p4 x gx (List.getElem?_eq_some_iff.1 g1).1 g2, ?_⟩
            rw [List.getElem?_append_right (by omega), hll, ← List.getElem?_append_right gx, g1, List.getElem?_eq_getElem hx2]
          refine hk' _ _ ρ' (hi.next hdk ht ho hD hready hD' hts p2 p3 ⟨q', r2, hdone, hnot, ?_, fun _ m hm hnm x hx1 hx2 => ?_⟩ fun m hm hnm x hx1 hx2 => (hold m hm hnm x hx1 hx2).1)
          · rw [hG]; exact p1
          · rw [hG]; exact (hold m hm hnm x hx1 hx2).2
        have hkn : Go.Eng.hk o.op = .write := by
          rcases kGn o.op with ⟨e, _⟩ | ⟨_, e⟩
          · exact absurd e hc
          · rw [← e]; exact hkind
        by_cases hll : (Hs (q + 1)).length = (Hs q).length
        · have hd2 := write_ext (Es A l Hs q) hkn hll hd
          refine (opSN (X := X) (q := false) rfl hd2 hkn q4 hops).wp fun u w' hw => ?_
          obtain ⟨ρ', p1, p2, p3, p4⟩ := hw
          have hG : Hs q' ++ Es A l Hs q' = Hs (q + 1) ++ Es A l Hs q := by
            rw [Es_pre ht henv hA q' r1 r2 r3, Es_write hA hilt hll]
          have hold : ∀ m, m < l.length → ¬ D' m → ∀ x, (Hs m).length ≤ x → x < (Hs (m + 1)).length → ρ' x = none ∧ (Hs (q + 1) ++ Es A l Hs q)[x]? = (Hs (m + 1))[x]? := fun m hm hnm x hx1 hx2 => by
            have g1 := still hA m hm hnm x hx1 hx2
            have g2 := hi.news m hm (fun h' => hnm ((hD' m).2 (.inl h'))) x hx1 hx2
            rw [List.getElem?_eq_getElem hx2] at g1
            obtain ⟨g3, g4⟩ := p4 x (List.getElem?_eq_some_iff.1 g1).1 g2
            exact ⟨g3, by rw [g4, g1, List.getElem?_eq_getElem hx2]⟩
          refine hk' _ _ ρ' (hi.next hdk ht ho hD hready hD' hts p2 p3 ⟨q', r2, hdone, hnot, ?_, fun _ m hm hnm x hx1 hx2 => ?_⟩ fun m hm hnm x hx1 hx2 => (hold m hm hnm x hx1 hx2).1)
          · rw [hG]; exact p1
          · rw [hG]; exact (hold m hm hnm x hx1 hx2).2
        · obtain ⟨ob, e1, e2⟩ := opSG (o := o) rfl hd hkn hll
          have hE : Es A l Hs q = ob :: Es A l Hs (q + 1) := by
            rw [Es_next hA hilt, e1, List.drop_left]; rfl
          have hG : Hs q' ++ Es A l Hs q' = Hs q ++ Es A l Hs q := by
            rw [Es_pre ht henv hA q' r1 r2 r3, Es_same hA hilt ⟨[ob], e1.symm⟩]
          have hlen1 : (Hs (q + 1)).length = (Hs q).length + 1 := by rw [e1]; simp
          have hE2 : Hs q ++ Es A l Hs q = Hs q ++ ob :: Es A l Hs (q + 1) := by rw [hE]
          refine (e2 X ρ w (Es A l Hs (q + 1)) a.eval (by rw [← hE2]; exact q4) (hi.news q hilt hD _ (Nat.le_refl _) (by omega)) hops).wp fun u w' hw => ?_
          obtain ⟨ρ', p1, p2, p3, p4⟩ := hw
          refine hk' _ _ ρ' (hi.next hdk ht ho hD hready hD' hts p2 p3 ⟨q', r2, hdone, hnot, ?_, fun hA m hm hnm x hx1 hx2 => ?_⟩ (fresh ρ' p4))
          · rw [hG, hE2]; exact p1
          · rw [hG]; exact still hA m hm hnm x hx1 hx2
    | read =>
      have hqi : q ≠ i := fun e => by
        subst e
        obtain ⟨⟨oq, hoq, hkq⟩, _⟩ := q3 hilt
        rw [ho] at hoq
        cases hoq
        rw [hkind] at hkq
        cases hkq
      have hq3 : q < l.length → isW l q ∧ ¬ D' q := fun hlt => ⟨(q3 hlt).1, fun h => by
        rcases (hD' q).1 h with h | h
        · exact (q3 hlt).2 h
        · exact hqi h⟩
      have hq2 : ∀ m, m < q → isW l m → D' m := fun m hm hmw => (hD' m).2 (.inl (q2 m hm hmw))
      by_cases hsg : stab o.op = true ∧ o.guard = none
      · obtain ⟨v', hv', hall⟩ := hst i o ho hsg.1 hsg.2
        have hd2 := hall q q1 fun m om hmq hml => by
          cases hc : kDu l m om i with
          | false => rfl
          | true =>
            unfold kDu at hc
            rw [Bool.and_eq_true] at hc
            have hw : isW l m := ⟨om, hml, by
              have h0 := hc.1
              split at h0
              · rename_i hwr
                exact hwr
              · cases h0⟩
            exact absurd (kFd hi.closed (q2 m hmq hw) hc.2) hD
        have hd3 := stab_ext (Es A l Hs q) hsg.1 hd2
        refine ((opEW rfl hd3 (by rw [show hkW o.op = .read from hkind]; intro e; cases e)).2 X ρ w (Hs q ++ Es A l Hs q) a.eval (List.prefix_refl _) q4 (fun x h1 h2 => by omega) hops).wp fun u w' hw => ?_
        obtain ⟨ρ', p1, p2, p3, p4⟩ := hw
        exact hk' _ _ ρ' (hi.next hdk ht ho hD hready hD' hv' p2 p3 ⟨q, q1, hq2, hq3, p1, still⟩ (fresh ρ' fun x hx => (p4 x hx).imp id fun h => by omega))
      · by_cases hal : A = true ∧ isAlloc o.op = true
        · obtain ⟨ob, e1, e2⟩ := alloc_ext hal.2 hd
          have hlen1 : (Hs (i + 1)).length = (Hs i).length + 1 := by rw [e1]; simp
          have g1 := q5 hal.1 i hilt hD (Hs i).length (Nat.le_refl _) (by omega)
          rw [e1, List.getElem?_append_right (Nat.le_refl _), Nat.sub_self] at g1
          simp only [List.getElem?_cons_zero] at g1
          have g2 := (List.getElem?_eq_some_iff.1 g1).1
          have g3 := e2 ((Hs q ++ Es A l Hs q).take (Hs i).length) (by rw [List.length_take]; omega)
          have g4 : (Hs q ++ Es A l Hs q).take (Hs i).length ++ [ob] = (Hs q ++ Es A l Hs q).take ((Hs i).length + 1) := by
            rw [List.take_add_one, g1]; rfl
          have gl : ((Hs q ++ Es A l Hs q).take (Hs i).length).length = (Hs i).length := by rw [List.length_take]; omega
          refine ((opEW rfl g3 (by rw [show hkW o.op = .read from hkind]; intro e; cases e)).2 X ρ w (Hs q ++ Es A l Hs q) a.eval (by rw [g4]; exact List.take_prefix _ _) q4 (fun x h1 h2 => hi.news i hilt hD x (by omega) (by rw [List.length_append, gl] at h2; simp at h2; omega)) hops).wp fun u w' hw => ?_
          obtain ⟨ρ', p1, p2, p3, p4⟩ := hw
          exact hk' _ _ ρ' (hi.next hdk ht ho hD hready hD' hts p2 p3 ⟨q, q1, hq2, hq3, p1, still⟩ (fresh ρ' fun x hx => (p4 x hx).imp id fun h => by rw [List.length_append, gl] at h; simp at h; omega))
        · have hiq : i < q := by
            rcases Nat.lt_trichotomy q i with h | h | h
            · obtain ⟨⟨oq, hoq, hkq⟩, hnq⟩ := q3 (by omega)
              rcases hord q oq h hoq with h' | h'
              · exact absurd h' hnq
              · have := (kB0 h').2
                rw [hkq, hkind] at this
                simp at this
                rcases this with h2 | h2
                · exact absurd h2 hsg
                · exact absurd h2 hal
            · exact absurd h hqi
            · exact h
          have hpre : Hs (i + 1) <+: Hs q := ht.pre henv q (by omega) q1 fun m h1 h2 hmw => by
            obtain ⟨om, hom, hkm⟩ := hmw
            rcases hord2 m om (by omega) hom with h' | h'
            · exact h' (q2 m h2 ⟨om, hom, hkm⟩)
            · have := (kB0 h').2
              rw [hkm, hkind] at this
              simp at this
              rcases this with h2 | h2
              · exact absurd h2 hsg
              · exact absurd h2 hal
          refine ((opEW rfl hd (by rw [show hkW o.op = _ from hkind]; intro e; cases e)).2 X ρ w (Hs q ++ Es A l Hs q) a.eval (hpre.trans (List.prefix_append _ _)) q4 (hi.news i hilt hD) hops).wp fun u w' hw => ?_
          obtain ⟨ρ', p1, p2, p3, p4⟩ := hw
          exact hk' _ _ ρ' (hi.next hdk ht ho hD hready hD' hts p2 p3 ⟨q, q1, hq2, hq3, p1, still⟩ (fresh ρ' p4))
    | free =>
      obtain ⟨hh, hany⟩ := kFf (hkW_free hkind) hd
      have hd2 := hany (Hs q ++ Es A l Hs q)
      refine ((opEW rfl hd2 (by rw [show hkW o.op = _ from hkind]; intro e; cases e)).2 X ρ w (Hs q ++ Es A l Hs q) a.eval (List.prefix_refl _) q4 (fun x h1 h2 => by omega) hops).wp fun u w' hw => ?_
      obtain ⟨ρ', p1, p2, p3, p4⟩ := hw
      have hdom : ∀ x, ρ x = none → ρ' x = none := fun x hx => by
        cases hx' : ρ' x with
        | none => rfl
        | some io =>
          rcases p4 x (by rw [hx']; intro e; cases e) with h | ⟨h1, h2⟩
          · exact absurd hx h
          · omega
      have hqi : q ≠ i := fun e => by
        subst e
        obtain ⟨⟨oq, hoq, hkq⟩, _⟩ := q3 hilt
        rw [ho] at hoq
        cases hoq
        rw [hkind] at hkq
        cases hkq
      refine hk' _ _ ρ' (hi.next hdk ht ho hD hready hD' hts p2 p3 ⟨q, q1, fun m hm hmw => (hD' m).2 (.inl (q2 m hm hmw)), fun hlt => ⟨(q3 hlt).1, fun h => ?_⟩, p1, still⟩ fun m hm hnm x hx1 hx2 => ?_)
      · rcases (hD' q).1 h with h | h
        · exact (q3 hlt).2 h
        · exact hqi h
      · exact hdom x (hi.news m hm (fun h' => hnm ((hD' m).2 (.inl h'))) x hx1 hx2)
  · rw [hi.wanted hdk ht ho hD hready hg]
    simp only [Bool.false_eq_true, if_false]
    obtain ⟨q, q1, q2, q3, q4, q5⟩ := hi.heap
    have still : A = true → ∀ m, m < l.length → ¬ D' m → ∀ x, (Hs m).length ≤ x → x < (Hs (m + 1)).length → (Hs q ++ Es A l Hs q)[x]? = (Hs (m + 1))[x]? := fun hA m hm hnm x hx1 hx2 => q5 hA m hm (fun h' => hnm ((hD' m).2 (.inl h'))) x hx1 hx2
    subst hv
    by_cases hqi : q = i
    · subst hqi
      obtain ⟨q', r1, r2, r3, r4⟩ := kCx l (l.length - (q + 1)) (q + 1) (by omega)
      obtain ⟨⟨oq, hoq, hkq⟩, _⟩ := q3 hilt
      rw [ho] at hoq
      cases hoq
      have h0 : Hs q ++ Es A l Hs q <+: Hs q' ++ Es A l Hs q' := by
        have h1 := Es_pfx (A := A) ht henv q' r1 r2 r3
        rw [hh] at h1
        cases hA : A with
        | true =>
          rw [Es_write hA hilt (by rw [hh])] at h1
          rw [hA] at h1
          exact h1
        | false =>
          rw [hA] at h1
          exact h1
      refine hk' _ _ ρ (hi.next hdk ht ho hD hready hD' hts (Step.refl _ _) kFx ⟨q', r2, fun m hm hmw => ?_, fun hlt => ⟨r4 hlt, fun hDq => ?_⟩, q4.pfx h0, fun hA m hm hnm x hx1 hx2 => ?_⟩ fun m hm hnm => hi.news m hm (fun h' => hnm ((hD' m).2 (.inl h'))))
      · rcases Nat.lt_trichotomy m q with h | h | h
        · exact (hD' m).2 (.inl (q2 m h hmw))
        · exact (hD' m).2 (.inr h)
        · exact absurd hmw (r3 m (by omega) hm)
      · obtain ⟨om, hom, hkm⟩ := r4 hlt
        rcases (hD' q').1 hDq with h | h
        · rcases hord2 q' om (by omega) hom with h' | h'
          · exact h' h
          · have := (kB0 h').2
            rw [hkm, hkq] at this
            simp at this
        · omega
      · have g := still hA m hm hnm x hx1 hx2
        obtain ⟨t, ht2⟩ := h0
        rw [← ht2, List.getElem?_append_left, g]
        rw [List.getElem?_eq_getElem hx2] at g
        exact (List.getElem?_eq_some_iff.1 g).1
    · refine hk' _ _ ρ (hi.next hdk ht ho hD hready hD' hts (Step.refl _ _) kFx ⟨q, q1, fun m hm hmw => (hD' m).2 (.inl (q2 m hm hmw)), fun hlt => ⟨(q3 hlt).1, fun h => ?_⟩, q4, still⟩ fun m hm hnm => hi.news m hm (fun h' => hnm ((hD' m).2 (.inl h'))))
      rcases (hD' q).1 h with h | h
      · exact (q3 hlt).2 h
      · exact hqi h
theorem any_ok (henv : kBr P env) (hdk : kDk A l = true) (ht : kCb A P l env Ts Hs) (hst : Stays P env l Ts Hs) {ρ0 : RM} {w0 : World} {Q : Exit → Act → World → Prop} (hQ : ∀ a w ρ D, (∀ i, i < l.length → D i) → Inv A P X l Ts Hs ρ0 w0 D a w ρ → Q .normal a w) :
    ∀ (fuel : Nat) (listed : Array Bool) (a : Act) (w : World) (ρ : RM) (U : List Nat), listed.size = l.length → U.length = fuel → (∀ i, i < l.length → listed.getD i false = false → i ∈ U) →
      Inv A P X l Ts Hs ρ0 w0 (fun i => listed.getD i false = true) a w ρ → wpAny P .any l.toArray Q fuel listed a w := by
  obtain ⟨dk1, dk2⟩ := kBz hdk
  have hnone : ∀ (listed : Array Bool), listed.size = l.length → Region.ready .any l.toArray listed = [] → ∀ i, i < l.length → listed.getD i false = true := fun listed hsz hr i => by
    induction i using Nat.strongRecOn with
    | _ i ih =>
      intro hi
      cases hli : listed.getD i false with
      | true => rfl
      | false =>
        have : i ∈ Region.ready .any l.toArray listed := mem_ready.2 ⟨by
          rw [Array.getD_eq_getD_getElem?, Array.getElem?_eq_getElem (by omega)] at hli ⊢
          exact hli, l[i], by simp [hi], fun e he hb => ih e.on (dk1 i l[i] (List.getElem?_eq_getElem hi) e.on (by
          unfold kCi
          rw [List.mem_filterMap]
          exact ⟨e, by simpa using he, by rw [if_pos hb]⟩)) (by
          have := dk1 i l[i] (List.getElem?_eq_getElem hi) e.on (by
            unfold kCi
            rw [List.mem_filterMap]
            exact ⟨e, by simpa using he, by rw [if_pos hb]⟩)
          omega)⟩
        rw [hr] at this
        cases this
  intro fuel
  induction fuel with
  | zero =>
    intro listed a w ρ U hsz hU hall hi
    have hall' : ∀ i, i < l.length → listed.getD i false = true := fun i hlt => by
      cases h : listed.getD i false with
      | true => rfl
      | false =>
        have := hall i hlt h
        rw [List.eq_nil_of_length_eq_zero hU] at this
        cases this
    refine ⟨?_, hQ a w ρ _ hall' hi⟩
    cases hr : Region.ready .any l.toArray listed with
    | nil => rfl
    | cons x xs =>
      have hx : x ∈ Region.ready .any l.toArray listed := by rw [hr]; simp
      obtain ⟨h1, o, h2, _⟩ := mem_ready.1 hx
      have hlt : x < l.length := by have := (Array.getElem?_eq_some_iff.1 h2).1; simpa using this
      have := hall' x hlt
      rw [Array.getD_eq_getD_getElem?, Array.getElem?_eq_getElem (by omega)] at this h1
      simp at this h1
      rw [this] at h1
      cases h1
  | succ fuel ih =>
    intro listed a w ρ U hsz hU hall hi
    refine ⟨fun hr => hQ a w ρ _ (hnone listed hsz hr) hi, fun i hir => ?_⟩
    obtain ⟨h1, o, h2, h3⟩ := mem_ready.1 hir
    have ho : l[i]? = some o := by simpa using h2
    have hlt := (List.getElem?_eq_some_iff.1 ho).1
    have hli : listed.getD i false = false := by
      rw [Array.getD_eq_getD_getElem?, Array.getElem?_eq_getElem (by omega)] at h1 ⊢
      exact h1
    refine hi.op (D' := fun x => (listed.setIfInBounds i true).getD x false = true) henv hdk ht hst ho (by rw [hli]; intro e; cases e) (fun e he => ?_) (fun x => ?_) fun a' w' ρ' hi' => ih _ a' w' ρ' (U.erase i) (by simpa using hsz) ?_ (fun m hm hml => ?_) hi'
    · unfold kCi at he
      rw [List.mem_filterMap] at he
      obtain ⟨e', g1, g2⟩ := he
      split at g2
      · rename_i hb
        cases g2
        exact h3 e' (by simpa using g1) hb
      · cases g2
    · by_cases hx : x = i
      · subst hx
        simp only [or_true, iff_true]
        rw [Array.getD_eq_getD_getElem?, Array.getElem?_setIfInBounds, if_pos rfl, if_pos (by omega)]
        rfl
      · rw [Array.getD_eq_getD_getElem?, Array.getElem?_setIfInBounds, if_neg (Ne.symm hx), ← Array.getD_eq_getD_getElem?]
        simp [hx]
    · rw [List.length_erase_of_mem (hall i hlt hli)]
      omega
    · have hne : m ≠ i := fun e => by
        subst e
        rw [Array.getD_eq_getD_getElem?, Array.getElem?_setIfInBounds, if_pos rfl, if_pos (by omega)] at hml
        cases hml
      rw [Array.getD_eq_getD_getElem?, Array.getElem?_setIfInBounds, if_neg (Ne.symm hne), ← Array.getD_eq_getD_getElem?] at hml
      exact (List.mem_erase_of_ne hne).2 (hall m hm hml)
end
theorem drawRegion_ok {env : Nat → Contract} (henv : kBr P env) (hm : P.follows .mixedOrders = true) {id : Nat} {ops : Array Oper} {R : Type} {tm : TM} {h : kA4} {a : Act} {w : World} {K : TM → kA4 → Option R} {y : R} {ρ0 : RM} {w0 : World} {Q : Exit → Act → World → Prop}
    (hdk : kDk A ops.toList = true) (hd : denW A P env ops.toList ops.toList [] [h] tm h K = some y) (hs : St P N X ρ0 w0 tm h a w) (hk : ∀ tm' h' a' w', K tm' h' = some y → St P N X ρ0 w0 tm' h' a' w' → Q .normal a' w') : (Code.region id ops true).wp P Q a w := by
  obtain ⟨Ts, Hs, t1, t2, t3, t4, -, t6⟩ := kIh ops.toList 0 [] [h] tm h K y (by simp) (fun i => by simp) (by simp) hd
  have ht : kCb A P ops.toList env Ts Hs := fun i o ho => by have := t3 i o ho; simpa using this
  have hst : Stays P env ops.toList Ts Hs := fun i o ho hs hg => by
    obtain ⟨v, h1, _, h2⟩ := t6 i o ho hs hg
    refine ⟨v, by simpa using h1, fun q hq hc => ?_⟩
    have h3 := h2 q hq fun m om _ b c => by
      have := hc m om (by omega) c
      simpa using this
    simpa [look] using h3
  obtain ⟨ρ, s1, s2, s3⟩ := hs.ex
  have hsd : Step ρ w ρ w.drew := Step.drew ρ w
  refine wp_region_any hm ?_
  have hall := any_ok (X := X) (ρ0 := ρ0) (w0 := w0) (Q := Q) henv hdk ht hst (fun a' w' ρ' D hD hi => by
    obtain ⟨q, q1, q2, q3, q4, q5⟩ := hi.heap
    have hq : q = ops.toList.length := by
      by_cases e : q < ops.toList.length
      · exact absurd (hD q e) (q3 e).2
      · omega
    subst hq
    rw [Es_last, List.append_nil] at q4
    rw [Nat.zero_add] at t4
    refine hk _ _ a' w' t4 ⟨⟨ρ', hi.step, q4, ⟨by rw [hi.tsize, ht.len _ (Nat.le_refl _)], fun t c v h1 h2 => ?_⟩⟩, hi.defers, by rw [hi.tsize, t1, ← s3.size]; exact hs.size⟩
    have := hi.slots ops.toList.length (Nat.le_refl _) t (.inl rfl) fun i o hlt _ _ => hD i hlt
    rw [List.getD_eq_getElem?_getD, h1, Array.getD_eq_getD_getElem?, h2] at this
    exact this) ops.toList.length (Array.replicate ops.size false) a w.drew ρ (List.range ops.toList.length) (by simp) (by simp) (fun i hi _ => by simpa using hi)
  have hfalse : ∀ i, (Array.replicate ops.size false).getD i false = false := fun i => by
    rw [Array.getD_eq_getD_getElem?, Array.getElem?_replicate]
    split <;> rfl
  have := hall ⟨fun j o _ hj => (by rw [hfalse] at hj; cases hj), s1.trans hsd, hs.defers, by
      obtain ⟨q, r1, r2, r3, r4⟩ := kCx ops.toList ops.toList.length 0 (by omega)
      refine ⟨q, r2, fun i hi hw => absurd hw (r3 i (by omega) hi), fun hlt => ⟨r4 hlt, (by rw [hfalse]; intro e; cases e)⟩, ?_, fun hA i hi _ x hx1 hx2 => ?_⟩
      · have := ht.pre henv q r1 r2 r3
        rw [t2] at this
        exact s2.drew.pfx (this.trans (List.prefix_append _ _))
      · rw [Es_pre ht henv hA q r1 r2 r3]
        exact Es_new ht henv hA hi hx1 hx2 i 0 (by omega),
    fun i hi _ x hx1 _ => s2.fresh (by
      have := ht.mono henv i (Nat.zero_le i) (by omega)
      rw [t2] at this
      omega),
    by rw [t1]; exact s3.size,
    fun j hj t hr hw => by
      have h0 : (Ts j)[t]? = (Ts 0)[t]? := ht.same j (Nat.zero_le _) hj fun m o _ h2 h3 h4 => by
        have := hw m o h2 h3 h4
        rw [hfalse] at this
        cases this
      rw [List.getD_eq_getElem?_getD, h0, t1, ← List.getD_eq_getElem?_getD]
      exact (s3.step hsd).getD t⟩
  simpa using this
end Go.Eng.Wm
