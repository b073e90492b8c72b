import Derived.Test.YtfhffgfbnlikjaaEngSeq
namespace Go.Eng
set_option linter.unusedVariables false
set_option linter.unusedSimpArgs false
open Go.RowKit
variable {P : Program} {N : Nat} {X : Nat → Prop} {w : World} {ρ : RM}
structure St (P : Program) (N : Nat) (X : Nat → Prop) (ρ0 : RM) (w0 : World) (tm : TM) (h : kA4) (a : Act) (w : World) : Prop where
  ex : ∃ ρ, Step ρ0 w0 ρ w ∧ HRep P X ρ h w ∧ TRep X ρ w tm a
  defers : a.defers = []
  size : a.tmps.size = N
theorem St.start {tm : TM} {h : kA4} {a : Act} (hr : HRep P X ρ h w) (ht : TRep X ρ w tm a) (hd : a.defers = []) (hn : a.tmps.size = N) : St P N X ρ w tm h a w := ⟨⟨ρ, Step.refl _ _, hr, ht⟩, hd, hn⟩
theorem St.put_defers (a : Act) (d : Option Tmp) (v : Value) : (a.put d v).defers = a.defers := by cases d <;> rfl
theorem put_size (a : Act) (d : Option Tmp) (v : Value) : (a.put d v).tmps.size = a.tmps.size := by cases d <;> simp [Act.put]
theorem skip_st {ρ0 : RM} {w0 : World} {tm : TM} {h : kA4} {a : Act} (hs : St P N X ρ0 w0 tm h a w) (d : Option Tmp) : St P N X ρ0 w0 (kFg tm d und) h (a.put d undef) w := by
  obtain ⟨ρ, h1, h2, h3⟩ := hs.ex
  exact ⟨⟨ρ, h1, h2, h3.put kFx⟩, by rw [St.put_defers]; exact hs.defers, by rw [put_size]; exact hs.size⟩
def Upd (os : List Oper) (tm tm' : TM) : Prop := tm'.length = tm.length ∧ ∀ t, (∀ o ∈ os, o.dst ≠ some t) → ∀ c, tm[t]? = some c → c = .top ∨ tm'[t]? = some c
theorem kE5 (tm : TM) (d : Option Tmp) (v : AV) : (kFg tm d v).length = tm.length := by cases d <;> simp [kFg]
theorem setD_ne {tm : TM} {d : Option Tmp} {v : AV} {t : Nat} (h : d ≠ some t) : (kFg tm d v)[t]? = tm[t]? := by
  cases d with
  | none => rfl
  | some d => simp only [kFg]; exact List.getElem?_set_ne (fun e => h (by rw [e]))
theorem Upd.nil (tm : TM) : Upd [] tm tm := ⟨rfl, fun _ _ _ h => .inr h⟩
theorem Upd.cons {o : Oper} {os : List Oper} {tm tm' : TM} {v : AV} (h : Upd os (kFg tm o.dst v) tm') : Upd (o :: os) tm tm' :=
  ⟨by rw [h.1, kE5], fun t ht c hc => h.2 t (fun x hx => ht x (by simp [hx])) c (by rw [setD_ne (ht o (by simp))]; exact hc)⟩
theorem kGt : ∀ (os : List Oper) (tm : TM) (v : AV), (setRun tm os v).length = tm.length
  | [], _, _ => rfl
  | [o], tm, v => kE5 tm o.dst v
  | o :: o' :: os, tm, v => by
    show (setRun (kFg tm o.dst .top) (o' :: os) v).length = _
    rw [kGt (o' :: os), kE5]
theorem kEh : ∀ (os : List Oper) (tm tm' : TM), Upd os tm tm' → ∀ (t : Nat) (c : AV), (setRun tm os (kFu tm' os))[t]? = some c → c = .top ∨ tm'[t]? = some c
  | [], tm, tm', h, t, c, hc => h.2 t (by simp) c hc
  | [o], tm, tm', h, t, c, hc => by
    simp only [setRun, kFu] at hc
    cases hd : o.dst with
    | none =>
      rw [hd] at hc
      exact h.2 t (by simp [hd]) c hc
    | some d =>
      rw [hd] at hc
      simp only [kFg] at hc
      by_cases e : d = t
      · subst e
        have hlt : d < tm.length := by have := (List.getElem?_eq_some_iff.1 hc).1; simpa using this
        rw [List.getElem?_set_self hlt] at hc
        cases hc
        right
        rw [List.getD_eq_getElem?_getD, List.getElem?_eq_getElem (by rw [h.1]; exact hlt)]
        rfl
      · rw [List.getElem?_set_ne e] at hc
        exact h.2 t (by simp [hd, e]) c hc
  | o :: o' :: os, tm, tm', h, t, c, hc => by
    refine kEh (o' :: os) (kFg tm o.dst .top) tm' ⟨by rw [h.1, kE5], fun t ht c hc => ?_⟩ t c hc
    by_cases e : o.dst = some t
    · left
      rw [e] at hc
      simp only [kFg] at hc
      have hlt : t < tm.length := by have := (List.getElem?_eq_some_iff.1 hc).1; simpa using this
      rw [List.getElem?_set_self hlt] at hc
      cases hc
      rfl
    · rw [setD_ne e] at hc
      exact h.2 t (fun x hx => by
        rcases List.mem_cons.1 hx with rfl | hx
        · exact e
        · exact ht x hx) c hc
theorem St.forget {ρ0 : RM} {w0 : World} {tm tm' : TM} {h : kA4} {a : Act} (hs : St P N X ρ0 w0 tm h a w) (hl : tm'.length = tm.length) (ht : ∀ (t : Nat) (c : AV), tm'[t]? = some c → c = .top ∨ tm[t]? = some c) : St P N X ρ0 w0 tm' h a w := by
  obtain ⟨ρ, h1, h2, h3⟩ := hs.ex
  exact ⟨⟨ρ, h1, h2, h3.forget hl ht⟩, hs.defers, hs.size⟩
theorem slot_val {tm : TM} {a : Act} {ρ : RM} (ht : TRep X ρ w tm a) (d : Nat) (hne : tm.getD d .top ≠ .top) : ∃ v, a.tmps[d]? = some v ∧ Rep (Own X ρ) w ρ (tm.getD d .top) v := by
  have hlt : d < tm.length := by
    by_cases hlt : d < tm.length
    · exact hlt
    · rw [List.getD_eq_getElem?_getD, List.getElem?_eq_none (by omega)] at hne; exact (hne rfl).elim
  have h2 : a.tmps[d]? = some (a.tmps[d]'(by have := ht.size; omega)) := Array.getElem?_eq_getElem _
  refine ⟨_, h2, ?_⟩
  rw [List.getD_eq_getElem?_getD, List.getElem?_eq_getElem hlt]
  exact ht.slot d _ _ (List.getElem?_eq_getElem hlt) h2
theorem guard_val {all : List Oper} {j : Nat} {b : Bool} {tm : TM} {a : Act} {ρ : RM} (ht : TRep X ρ w tm a) :
    (yv all tm j = .sc (.bool b) → yielded all.toArray a.tmps j = some b) ∧ (yv all tm j = .tup [] → yielded all.toArray a.tmps j = none) := by
  constructor
  · intro h
    unfold yv at h
    split at h
    · rename_i o ho
      split at h
      · rename_i d hd
        obtain ⟨v, h2, h3⟩ := slot_val ht d (by rw [h]; intro e; cases e)
        rw [h] at h3
        have h4 := h3.bool_inv
        unfold yielded
        simp [ho, hd, h2, h4]
      · cases h
    · cases h
  · intro h
    unfold yv at h
    split at h
    · rename_i o ho
      split at h
      · rename_i d hd
        obtain ⟨v, h2, h3⟩ := slot_val ht d (by rw [h]; intro e; cases e)
        rw [h] at h3
        have h4 : ∃ vs, v = .tuple vs := by
          cases h3
          exact ⟨_, rfl⟩
        obtain ⟨vs, h4⟩ := h4
        unfold yielded
        simp [ho, hd, h2, h4]
      · cases h
    · cases h
def RunGood (all : List Oper) (r : Run) : Prop :=
  match r.1 with
  | none => ∀ o ∈ r.2, o.guard = none
  | some (j, want) => (∀ o ∈ r.2, o.guard = some (j, want)) ∧ (r.2.length ≤ 1 ∨ runOk all j r.2 = true)
theorem seq_yes {env : Nat → Contract} {q : Bool} (henv : kBr P env) {all : List Oper} {Q : Exit → Act → World → Prop} {rest : List Oper} {R : Type} {ρ0 : RM} {w0 : World} : ∀ (os : List Oper) (tm : TM) (h : kA4) (a : Act) (w : World) (K : TM → kA4 → Option R) (y : R),
    kIg P env q os tm h K = some y → St P N X ρ0 w0 tm h a w →
    (∀ (pre suf : List Oper) (o : Oper) (a' : Act), os = pre ++ o :: suf → (∀ t, (∀ x ∈ pre, x.dst ≠ some t) → a'.tmps[t]? = a.tmps[t]?) → Region.wanted o (yielded all.toArray a'.tmps) = true) →
    (∀ tm' h' a' w', K tm' h' = some y → Upd os tm tm' → St P N X ρ0 w0 tm' h' a' w' → wpList P all.toArray Q rest a' w') → wpList P all.toArray Q (os ++ rest) a w
  | [], tm, h, a, w, K, y, hd, hs, _, hk => hk tm h a w hd (Upd.nil tm) hs
  | o :: os, tm, h, a, w, K, y, hd, hs, hw, hk => by
    simp only [kIg] at hd
    rw [kEq] at hd
    obtain ⟨v, h', h1, h2⟩ := kAu hd
    have hwant := hw [] os o a rfl (fun _ _ => rfl)
    simp only [List.cons_append, wpList, hwant, if_true]
    left
    obtain ⟨ρ, g1, g2, g3⟩ := hs.ex
    refine (opS (X := X) henv rfl h1 g2 (fun x _ => g3.eval x)).wp fun u w' hwr => ?_
    obtain ⟨ρ', p1, p2, p3⟩ := hwr
    refine seq_yes henv os (kFg tm o.dst v) h' _ w' K y h2 ⟨⟨ρ', g1.trans p2, p1, (g3.step p2).put p3⟩, by rw [St.put_defers]; exact hs.defers, by rw [put_size]; exact hs.size⟩ (fun pre suf o' a' e hq => ?_) (fun tm' h'' a' w'' k1 k2 k3 => hk tm' h'' a' w'' k1 k2.cons k3)
    refine hw (o :: pre) suf o' a' (by rw [e]; rfl) fun t ht => ?_
    rw [hq t (fun x hx => ht x (by simp [hx]))]
    have hne := ht o (by simp)
    cases hd' : o.dst with
    | none => rfl
    | some d =>
      rw [hd'] at hne
      simp only [Act.put]
      rw [Array.getElem?_setIfInBounds, if_neg (fun e => hne (by rw [e]))]
theorem seq_no {all : List Oper} {Q : Exit → Act → World → Prop} {rest : List Oper} {ρ0 : RM} {w0 : World} {h : kA4} {w : World} : ∀ (os : List Oper) (tm : TM) (a : Act), St P N X ρ0 w0 tm h a w →
    (∀ (pre suf : List Oper) (o : Oper) (a' : Act), os = pre ++ o :: suf → (∀ t, (∀ x ∈ pre, x.dst ≠ some t) → a'.tmps[t]? = a.tmps[t]?) → Region.wanted o (yielded all.toArray a'.tmps) = false) →
    (∀ a', St P N X ρ0 w0 (setRun tm os und) h a' w → wpList P all.toArray Q rest a' w) → wpList P all.toArray Q (os ++ rest) a w := by
  have key : ∀ (os : List Oper) (tm : TM) (a : Act), St P N X ρ0 w0 tm h a w →
      (∀ (pre suf : List Oper) (o : Oper) (a' : Act), os = pre ++ o :: suf → (∀ t, (∀ x ∈ pre, x.dst ≠ some t) → a'.tmps[t]? = a.tmps[t]?) → Region.wanted o (yielded all.toArray a'.tmps) = false) →
      (∀ tm' a', Upd os tm tm' → (os ≠ [] → kFu tm' os = und) → St P N X ρ0 w0 tm' h a' w → wpList P all.toArray Q rest a' w) → wpList P all.toArray Q (os ++ rest) a w := by
    intro os
    induction os with
    | nil => exact fun tm a hs _ hk => hk tm a (Upd.nil tm) (fun h => (h rfl).elim) hs
    | cons o os ih =>
      intro tm a hs hw hk
      have hwant := hw [] os o a rfl (fun _ _ => rfl)
      simp only [List.cons_append, wpList, hwant, Bool.false_eq_true, if_false]
      refine ih (kFg tm o.dst und) _ (skip_st hs o.dst) (fun pre suf o' a' e hq => ?_) (fun tm' a' k1 k2 k3 => hk tm' a' k1.cons (fun _ => ?_) k3)
      · refine hw (o :: pre) suf o' a' (by rw [e]; rfl) fun t ht => ?_
        rw [hq t (fun x hx => ht x (by simp [hx]))]
        have hne := ht o (by simp)
        cases hd' : o.dst with
        | none => rfl
        | some d =>
          rw [hd'] at hne
          simp only [Act.put]
          rw [Array.getElem?_setIfInBounds, if_neg (fun e => hne (by rw [e]))]
      · cases os with
        | nil =>
          simp only [kFu]
          cases hd' : o.dst with
          | none => rfl
          | some d =>
            simp only
            have hd2 : ∃ n : Nat, n = d := ⟨d, rfl⟩
            obtain ⟨n, hn⟩ := hd2
            rw [← hn]
            rw [← hn] at hd'
            by_cases hlt : n < tm.length
            · have h3 : (kFg tm o.dst und)[n]? = some und := by rw [hd']; simp only [kFg]; rw [List.getElem?_set_self hlt]
              rcases k1.2 n (by simp) und h3 with h4 | h4
              · cases h4
              · rw [List.getD_eq_getElem?_getD, h4]; rfl
            · have h5 := k1.1
              rw [kE5] at h5
              rw [List.getD_eq_getElem?_getD, List.getElem?_eq_none (by omega)]
              rfl
        | cons o' os' =>
          show kFu tm' (o' :: os') = und
          exact k2 (by simp)
  intro os tm a hs hw hk
  refine key os tm a hs hw fun tm' a' k1 k2 k3 => hk a' (k3.forget (by rw [kGt, k1.1]) fun t c hc => ?_)
  cases os with
  | nil => exact kEh [] tm tm' k1 t c hc
  | cons o os =>
    refine kEh (o :: os) tm tm' k1 t c ?_
    rw [k2 (by simp)]
    exact hc
theorem kFt {all : List Oper} {j : Nat} {want : Bool} {os : List Oper} (hg : ∀ o ∈ os, o.guard = some (j, want)) (hok : os.length ≤ 1 ∨ runOk all j os = true) {a : Act} (pre suf : List Oper) (o : Oper) (a' : Act) (e : os = pre ++ o :: suf)
    (hq : ∀ t, (∀ x ∈ pre, x.dst ≠ some t) → a'.tmps[t]? = a.tmps[t]?) : Region.wanted o (yielded all.toArray a'.tmps) = (yielded all.toArray a.tmps j == some want) := by
  have ho : o.guard = some (j, want) := hg o (by rw [e]; simp)
  unfold Region.wanted
  rw [ho]
  have : yielded all.toArray a'.tmps j = yielded all.toArray a.tmps j := by
    rcases hok with h | h
    · have : pre = [] := by
        cases pre with
        | nil => rfl
        | cons p ps => rw [e] at h; simp at h
      subst this
      unfold yielded
      congr 1
      cases hj : (all.toArray[j]?).bind (·.dst) with
      | none => rfl
      | some d =>
        simp only [Option.bind_some]
        exact hq d (by simp)
    · unfold runOk at h
      split at h
      · rename_i oj hoj
        split at h
        · rename_i d hd
          rw [List.all_eq_true] at h
          unfold yielded
          simp only [List.getElem?_toArray, hoj, Option.bind_some, hd]
          rw [hq d (fun x hx => by
            have := h x (by rw [e]; simp [hx])
            simpa using this)]
        · cases h
      · cases h
  simp only [this]
theorem runs_ok {env : Nat → Contract} {q : Bool} (henv : kBr P env) {all : List Oper} {Q : Exit → Act → World → Prop} {R : Type} {ρ0 : RM} {w0 : World} : ∀ (runs : List Run) (tm : TM) (h : kA4) (a : Act) (w : World) (K : TM → kA4 → Option R) (y : R),
    kCf P env q all runs tm h K = some y → (∀ r ∈ runs, RunGood all r) → St P N X ρ0 w0 tm h a w →
    (∀ tm' h' a' w', K tm' h' = some y → St P N X ρ0 w0 tm' h' a' w' → Q .normal a' w') → wpList P all.toArray Q (runs.flatMap (·.2)) a w
  | [], tm, h, a, w, K, y, hd, _, hs, hk => hk tm h a w hd hs
  | (none, os) :: runs, tm, h, a, w, K, y, hd, hg, hs, hk => by
    simp only [kCf] at hd
    have hgood : ∀ o ∈ os, o.guard = none := hg (none, os) (by simp)
    simp only [List.flatMap_cons]
    refine seq_yes henv os tm h a w _ y hd hs (fun pre suf o a' e _ => ?_) fun tm' h' a' w' k1 _ k3 => runs_ok henv runs tm' h' a' w' K y k1 (fun r hr => hg r (by simp [hr])) k3 hk
    unfold Region.wanted
    rw [hgood o (by rw [e]; simp)]
  | (some (j, want), os) :: runs, tm, h, a, w, K, y, hd, hg, hs, hk => by
    simp only [kCf] at hd
    obtain ⟨v, h', h1, h2⟩ := kAu hd
    have hgood := hg (some (j, want), os) (by simp)
    obtain ⟨g1, g2⟩ := hgood
    simp only [List.flatMap_cons]
    obtain ⟨ρ, s1, s2, s3⟩ := hs.ex
    unfold kAd at h1
    split at h1
    · rename_i b hb
      have hy := (guard_val (all := all) (j := j) (b := b) s3).1 hb
      cases hbw : (b == want) with
      | true =>
        rw [hbw] at h1
        simp only [cond_true] at h1
        refine seq_yes henv os tm h a w _ (v, h') h1 hs (fun pre suf o a' e hq => ?_) fun tm' h'' a' w' k1 k2 k3 => ?_
        · rw [kFt g1 g2 pre suf o a' e hq, hy]
          simpa using hbw
        · simp only [Option.some.injEq, Prod.mk.injEq] at k1
          obtain ⟨rfl, rfl⟩ := k1
          exact runs_ok henv runs _ _ a' w' K y h2 (fun r hr => hg r (by simp [hr])) (k3.forget (by rw [kGt, k2.1]) (kEh os tm tm' k2)) hk
      | false =>
        rw [hbw] at h1
        simp only [cond_false, Option.some.injEq, Prod.mk.injEq] at h1
        obtain ⟨rfl, rfl⟩ := h1
        refine seq_no os tm a hs (fun pre suf o a' e hq => ?_) fun a' k3 => runs_ok henv runs _ _ a' w K y h2 (fun r hr => hg r (by simp [hr])) k3 hk
        rw [kFt g1 g2 pre suf o a' e hq, hy]
        simpa using hbw
    · rename_i hb
      have hy := (guard_val (all := all) (j := j) (b := true) s3).2 hb
      simp only [Option.some.injEq, Prod.mk.injEq] at h1
      obtain ⟨rfl, rfl⟩ := h1
      refine seq_no os tm a hs (fun pre suf o a' e hq => ?_) fun a' k3 => runs_ok henv runs _ _ a' w K y h2 (fun r hr => hg r (by simp [hr])) k3 hk
      rw [kFt g1 g2 pre suf o a' e hq, hy]
      rfl
    · cases h1
theorem group_ok (all : List Oper) : ∀ os : List Oper, (group all os).flatMap (·.2) = os ∧ ∀ r ∈ group all os, RunGood all r
  | [] => ⟨rfl, by simp [group]⟩
  | o :: os => by
    obtain ⟨h1, h2⟩ := group_ok all os
    unfold group
    split
    · rename_i hg
      refine ⟨by simp [h1], fun r hr => ?_⟩
      rcases List.mem_cons.1 hr with rfl | hr
      · intro x hx; simp at hx; subst hx; exact hg
      · exact h2 r hr
    · rename_i g g' os' rest hg hgr
      rw [hgr] at h1 h2
      split
      · rename_i hc
        obtain ⟨rfl, hok⟩ := hc
        obtain ⟨j, want⟩ := g
        refine ⟨by simpa using h1, fun r hr => ?_⟩
        rcases List.mem_cons.1 hr with rfl | hr
        · refine ⟨fun x hx => ?_, .inr hok⟩
          rcases List.mem_cons.1 hx with rfl | hx
          · exact hg
          · exact (h2 (some (j, want), os') (by simp)).1 x hx
        · exact h2 r (by simp [hr])
      · refine ⟨by simpa using h1, fun r hr => ?_⟩
        obtain ⟨j, want⟩ := g
        rcases List.mem_cons.1 hr with rfl | hr
        · exact ⟨fun x hx => by simp at hx; subst hx; exact hg, .inl (by simp)⟩
        · exact h2 r hr
    · rename_i g hg hgr
      refine ⟨by simp [h1], fun r hr => ?_⟩
      obtain ⟨j, want⟩ := g
      rcases List.mem_cons.1 hr with rfl | hr
      · exact ⟨fun x hx => by simp at hx; subst hx; exact hg, .inl (by simp)⟩
      · exact h2 r hr
theorem kHi {env : Nat → Contract} (henv : kBr P env) {id : Nat} {ops : Array Oper} {R : Type} {tm : TM} {h : kA4} {a : Act} {w : World} {K : TM → kA4 → Option R} {y : R} {ρ0 : RM} {w0 : World} {Q : Exit → Act → World → Prop}
    (hd : kCf P env false ops.toList (group ops.toList ops.toList) tm h K = some y) (hs : St P N X ρ0 w0 tm h a w) (hk : ∀ tm' h' a' w', K tm' h' = some y → St P N X ρ0 w0 tm' h' a' w' → Q .normal a' w') : (Code.region id ops false).wp P Q a w := by
  refine wp_region_list ?_
  obtain ⟨g1, g2⟩ := group_ok ops.toList ops.toList
  have := runs_ok (Q := Q) henv _ tm h a w K y hd g2 hs hk
  rw [g1] at this
  simpa using this
end Go.Eng
