import Derived.Test.YtfhffgfbnlikjaaEngDraw
namespace Go.Eng
set_option linter.unusedVariables false
set_option linter.unusedSimpArgs false
open Go.RowKit
variable {P : Program} {N : Nat} {X : Nat → Prop} {w : World} {ρ : RM}
def isW (l : List Oper) (i : Nat) : Prop := ∃ o, l[i]? = some o ∧ hk o.op = .write
section
variable {l : List Oper} {env : Nat → Contract} {Ts : Nat → TM} {Hs : Nat → kA4}
def kCb (P : Program) (l : List Oper) (env : Nat → Contract) (Ts : Nat → TM) (Hs : Nat → kA4) : Prop := ∀ i o, l[i]? = some o → StepA P l env o (Ts i) (Hs i) (Ts (i + 1)) (Hs (i + 1))
theorem kCb.len (ht : kCb P l env Ts Hs) : ∀ i, i ≤ l.length → (Ts i).length = (Ts 0).length
  | 0, _ => rfl
  | i + 1, h => by
    obtain ⟨v, e, _⟩ := ht i l[i] (List.getElem?_eq_getElem (by omega))
    rw [e, kE5]
    exact kCb.len ht i (by omega)
theorem kCb.same (ht : kCb P l env Ts Hs) {i t : Nat} : ∀ j, i ≤ j → j ≤ l.length → (∀ m o, i ≤ m → m < j → l[m]? = some o → o.dst ≠ some t) → (Ts j)[t]? = (Ts i)[t]?
  | 0, h1, _, _ => by
      have : i = 0 := by omega
      subst this; rfl
  | j + 1, h1, h2, h3 => by
    by_cases e : i = j + 1
    · rw [e]
    · obtain ⟨v, e1, _⟩ := ht j l[j] (List.getElem?_eq_getElem (by omega))
      rw [e1, setD_ne (h3 j _ (by omega) (by omega) (List.getElem?_eq_getElem (by omega)))]
      exact kCb.same ht j (by omega) (by omega) fun m o a b c => h3 m o a (by omega) c
theorem store_len {s : Nat} {x y : AV} {h h' : kA4} (hl : kAw s x y h = some h') : h'.length = h.length := by
  unfold kAw at hl
  repeat' split at hl
  all_goals first | (cases hl; done) | (cases hl; simp)
theorem append_len {st : Bool} {k b : Nat} {s x v : AV} {h h' : kA4} (ha : kB1 st k b s x h = some (v, h')) : h.length ≤ h'.length := by
  unfold kB1 at ha
  repeat' split at ha
  all_goals first | (cases ha; done) | (cases ha; simp)
theorem kCb.step (ht : kCb P l env Ts Hs) (henv : kBr P env) {i : Nat} {o : Oper} (ho : l[i]? = some o) :
    (Hs i).length ≤ (Hs (i + 1)).length ∧ (hk o.op = .free → Hs (i + 1) = Hs i) ∧ (hk o.op ≠ .write → Hs i <+: Hs (i + 1)) := by
  obtain ⟨v, _, h | ⟨_, _, h⟩⟩ := ht i o ho
  · obtain ⟨_, hd⟩ := h
    refine ⟨?_, fun hf => (kFf hf hd).1, fun hw => (opE henv rfl hd hw).1⟩
    by_cases hw : hk o.op = .write
    · unfold hk at hw
      split at hw <;> first | (cases hw; done) | skip
      · rename_i t a x e
        rw [e] at hd
        simp only [kBq] at hd
        split at hd
        · obtain ⟨h', h1, h2⟩ := kAl hd
          cases h2
          exact Nat.le_of_eq (store_len h1).symm
        · cases hd
      · rename_i args ts e
        rw [e] at hd
        simp only [kBq, kDo, kCu] at hd
        repeat' split at hd
        all_goals first
          | (cases hd; done)
          | (rename_i hb _ _; cases hb; done)
          | (
                obtain ⟨a, c, h1, h2⟩ := kAu hd
                cases h2
                exact append_len h1)
          | skip
        all_goals (obtain ⟨a, h1, h2⟩ := kAl hd; exact Nat.le_of_eq (congrArg List.length (Prod.mk.inj (Option.some.inj h2)).2))
    · exact (opE henv rfl hd hw).1.length_le
  · rw [h]
    exact ⟨Nat.le_refl _, fun _ => rfl, fun _ => List.prefix_refl _⟩
theorem kCb.mono (ht : kCb P l env Ts Hs) (henv : kBr P env) {i : Nat} : ∀ j, i ≤ j → j ≤ l.length → (Hs i).length ≤ (Hs j).length
  | 0, h1, _ => by
      have : i = 0 := by omega
      subst this; exact Nat.le_refl _
  | j + 1, h1, h2 => by
    by_cases e : i = j + 1
    · rw [e]; exact Nat.le_refl _
    · exact Nat.le_trans (kCb.mono ht henv j (by omega) (by omega)) (ht.step henv (List.getElem?_eq_getElem (show j < l.length by omega))).1
theorem kCb.pre (ht : kCb P l env Ts Hs) (henv : kBr P env) {i : Nat} : ∀ j, i ≤ j → j ≤ l.length → (∀ m, i ≤ m → m < j → ¬ isW l m) → Hs i <+: Hs j
  | 0, h1, _, _ => by
      have : i = 0 := by omega
      subst this; exact List.prefix_refl _
  | j + 1, h1, h2, h3 => by
    by_cases e : i = j + 1
    · rw [e]; exact List.prefix_refl _
    · have hj : l[j]? = some (l[j]'(by omega)) := List.getElem?_eq_getElem _
      exact (kCb.pre ht henv j (by omega) (by omega) fun m a b => h3 m a (by omega)).trans ((ht.step henv hj).2.2 fun hw => h3 j (by omega) (by omega) ⟨_, hj, hw⟩)
theorem kCx (l : List Oper) : ∀ (d k : Nat), k + d = l.length → ∃ q, k ≤ q ∧ q ≤ l.length ∧ (∀ m, k ≤ m → m < q → ¬ isW l m) ∧ (q < l.length → isW l q)
  | 0, k, h => ⟨k, Nat.le_refl _, by omega, fun m a b => by omega, fun hh => by omega⟩
  | d + 1, k, h => by
    by_cases hw : isW l k
    · exact ⟨k, Nat.le_refl _, by omega, fun m a b => by omega, fun _ => hw⟩
    · obtain ⟨q, h1, h2, h3, h4⟩ := kCx l d (k + 1) (by omega)
      refine ⟨q, by omega, h2, fun m a b => ?_, h4⟩
      by_cases e : m = k
      · subst e; exact hw
      · exact h3 m (by omega) b
structure Inv (P : Program) (X : Nat → Prop) (l : List Oper) (Ts : Nat → TM) (Hs : Nat → kA4) (ρ0 : RM) (w0 : World) (D : Nat → Prop) (a : Act) (w : World) (ρ : RM) : Prop where
  closed : ∀ j o, l[j]? = some o → D j → ∀ e ∈ kCi o, D e
  step : Step ρ0 w0 ρ w
  defers : a.defers = []
  heap : ∃ q, q ≤ l.length ∧ (∀ i, i < q → isW l i → D i) ∧ (q < l.length → isW l q ∧ ¬ D q) ∧ HRep P X ρ (Hs q) w
  news : ∀ i, i < l.length → ¬ D i → ∀ x, (Hs i).length ≤ x → x < (Hs (i + 1)).length → ρ x = none
  tsize : a.tmps.size = (Ts 0).length
  slots : ∀ (j : Nat), j ≤ l.length → ∀ (t : Nat), (j = l.length ∨ (¬ D j ∧ ∃ o, l[j]? = some o ∧ t ∈ o.looksAt l.toArray)) → (∀ i o, i < j → l[i]? = some o → o.dst = some t → D i) →
    Rep (Own X ρ) w ρ ((Ts j).getD t und) (a.tmps.getD t undef)
theorem kDf {ops : Array Oper} {x y : Oper} {t : Nat} (h : x.apart ops y = true) (hx : x.dst = some t) : t ∉ y.looksAt ops ∧ y.dst ≠ some t :=
  ⟨(Oper.apart_spec h).1 t hx, (Oper.apart_spec h).2.1 t hx⟩
theorem Inv.next (hdk : kDk l = true) (ht : kCb P l env Ts Hs) {ρ0 ρ ρ' : RM} {w0 w w' : World} {D D' : Nat → Prop} {a : Act} (hi : Inv P X l Ts Hs ρ0 w0 D a w ρ) {i : Nat} {o : Oper} (ho : l[i]? = some o) (hD : ¬ D i) (hready : ∀ e ∈ kCi o, D e)
    (hD' : ∀ x, D' x ↔ D x ∨ x = i) {v : AV} {u : Value} (hts : Ts (i + 1) = kFg (Ts i) o.dst v) (hs : Step ρ w ρ' w') (hu : Rep (Own X ρ') w' ρ' v u)
    (hheap : ∃ q, q ≤ l.length ∧ (∀ i, i < q → isW l i → D' i) ∧ (q < l.length → isW l q ∧ ¬ D' q) ∧ HRep P X ρ' (Hs q) w')
    (hnews : ∀ m, m < l.length → ¬ D' m → ∀ x, (Hs m).length ≤ x → x < (Hs (m + 1)).length → ρ' x = none) : Inv P X l Ts Hs ρ0 w0 D' (a.put o.dst u) w' ρ' := by
  obtain ⟨dk1, dk2⟩ := kBz hdk
  have hilt := (List.getElem?_eq_some_iff.1 ho).1
  refine ⟨fun j oj hj hDj e he => ?_, hi.step.trans hs, by rw [St.put_defers]; exact hi.defers, hheap, hnews, by cases o.dst <;> simp [Act.put, hi.tsize], fun j hj t hr hwr => ?_⟩
  · rw [hD'] at hDj ⊢
    rcases hDj with h | rfl
    · exact .inl (hi.closed j oj hj h e he)
    · rw [ho] at hj; cases hj; exact .inl (hready e he)
  · by_cases hdt : o.dst = some t
    ·
      have hij : i < j := by
        rcases hr with hr | ⟨hnd, oj, hoj, hlook⟩
        · omega
        · rcases Nat.lt_trichotomy i j with h | h | h
          · exact h
          · subst h; exact absurd ((hD' i).2 (.inr rfl)) hnd
          · rcases dk2 j i oj o h hoj ho with hb | hap
            · have := kCm hi.closed ho hready hb (by omega)
              exact absurd ((hD' j).2 (.inl this)) hnd
            · exact absurd hlook ((Oper.apart_spec (kB0 hap).1).2.2 t hdt)
      have hsame : (Ts j)[t]? = (Ts (i + 1))[t]? := ht.same j (by omega) hj fun m om h1 h2 hm hdm => by
        have hDm : D m := by
          rcases (hD' m).1 (hwr m om h2 hm hdm) with h | h
          · exact h
          · omega
        rcases dk2 i m o om (by omega) ho hm with hb | hap
        · exact hD (kFd hi.closed hDm hb)
        · exact (kDf (kB0 hap).1 hdt).2 hdm
      rw [List.getD_eq_getElem?_getD, hsame, hts, hdt]
      simp only [kFg, Act.put]
      by_cases hlt : t < (Ts i).length
      · rw [List.getElem?_set_self hlt, Array.getD_eq_getD_getElem?, Array.getElem?_setIfInBounds, if_pos rfl, if_pos (by rw [hi.tsize, ← ht.len i (by omega)]; exact hlt)]
        exact hu
      · rw [List.getElem?_eq_none (by simp; omega), Array.getD_eq_getD_getElem?, Array.getElem?_eq_none (by simp; rw [hi.tsize, ← ht.len i (by omega)]; omega)]
        exact kFx
    · have hsame : (a.put o.dst u).tmps.getD t undef = a.tmps.getD t undef := by
        cases hd : o.dst with
        | none => rfl
        | some d =>
          rw [hd] at hdt
          simp only [Act.put]
          rw [Array.getD_eq_getD_getElem?, Array.getElem?_setIfInBounds, if_neg (fun e => hdt (by rw [e])), ← Array.getD_eq_getD_getElem?]
      rw [hsame]
      refine hs.rep (hi.slots j hj t ?_ fun m om hm1 hm2 hm3 => ?_)
      · rcases hr with hr | ⟨hnd, h⟩
        · exact .inl hr
        · exact .inr ⟨fun h' => hnd ((hD' j).2 (.inl h')), h⟩
      · rcases (hD' m).1 (hwr m om hm1 hm2 hm3) with h | rfl
        · exact h
        · rw [ho] at hm2; cases hm2; exact absurd hm3 hdt
theorem Inv.wanted {ρ0 ρ : RM} {w0 w : World} {D : Nat → Prop} {a : Act} (hdk : kDk l = true) (ht : kCb P l env Ts Hs) (hi : Inv P X l Ts Hs ρ0 w0 D a w ρ) {i : Nat} {o : Oper} (ho : l[i]? = some o) (hD : ¬ D i) (hready : ∀ e ∈ kCi o, D e) {b : Bool} (hg : kD6 l (Ts i) o = some b) :
    Region.wanted o (yielded l.toArray a.tmps) = b := by
  obtain ⟨dk1, dk2⟩ := kBz hdk
  have hilt := (List.getElem?_eq_some_iff.1 ho).1
  unfold kD6 at hg
  unfold Region.wanted
  split at hg
  · rename_i hgd; rw [hgd]; simpa using hg
  · rename_i j want hgd
    rw [hgd]
    simp only
    have key : ∀ d oj, l[j]? = some oj → oj.dst = some d → (Ts i).getD d .top ≠ .top → ∃ x, a.tmps[d]? = some x ∧ Rep (Own X ρ) w ρ ((Ts i).getD d .top) x := fun d oj hoj hd hne => by
      have hlt : d < (Ts i).length := by
        have hd2 : ∃ n : Nat, n = d := ⟨d, rfl⟩
        obtain ⟨n, rfl⟩ := hd2
        by_cases hlt : n < (Ts i).length
        · exact hlt
        · rw [List.getD_eq_getElem?_getD, List.getElem?_eq_none (by omega)] at hne; exact (hne rfl).elim
      have hlook : d ∈ o.looksAt l.toArray := by
        unfold Oper.looksAt
        rw [hgd]
        simp [hoj, hd]
      have hsl := hi.slots i (by omega) d (.inr ⟨hD, o, ho, hlook⟩) fun m om h1 h2 h3 => by
        rcases dk2 m i om o h1 h2 ho with hb | hap
        · exact kCm hi.closed ho hready hb (by omega)
        · exact absurd hlook (kDf (kB0 hap).1 h3).1
      have hsz : d < a.tmps.size := by rw [hi.tsize, ← ht.len i (by omega)]; exact hlt
      refine ⟨a.tmps[d], Array.getElem?_eq_getElem hsz, ?_⟩
      rw [List.getD_eq_getElem?_getD, List.getElem?_eq_getElem hlt] at hsl ⊢
      rw [Array.getD_eq_getD_getElem?, Array.getElem?_eq_getElem hsz] at hsl
      exact hsl
    split at hg
    · rename_i c hc
      cases hg
      unfold yv at hc
      split at hc
      · rename_i oj hoj
        split at hc
        · rename_i d hd
          obtain ⟨x, h1, h2⟩ := key d oj hoj hd (by rw [hc]; intro e; cases e)
          rw [hc] at h2
          have h3 := h2.bool_inv
          unfold yielded
          simp [hoj, hd, h1, h3]
        · cases hc
      · cases hc
    · rename_i hc
      cases hg
      unfold yv at hc
      split at hc
      · rename_i oj hoj
        split at hc
        · rename_i d hd
          obtain ⟨x, h1, h2⟩ := key d oj hoj hd (by rw [hc]; intro e; cases e)
          rw [hc] at h2
          have h3 : ∃ vs, x = .tuple vs := by cases h2; exact ⟨_, rfl⟩
          obtain ⟨vs, h3⟩ := h3
          unfold yielded
          simp [hoj, hd, h1, h3]
        · cases hc
      · cases hc
    · cases hg
theorem Inv.operand {ρ0 ρ : RM} {w0 w : World} {D : Nat → Prop} {a : Act} (hdk : kDk l = true) (hi : Inv P X l Ts Hs ρ0 w0 D a w ρ) {i : Nat} {o : Oper} (ho : l[i]? = some o) (hD : ¬ D i) (hready : ∀ e ∈ kCi o, D e) :
    ∀ x ∈ o.op.operands.toList, Rep (Own X ρ) w ρ (ev (Ts i) x) (a.eval x) := fun x hx => by
  obtain ⟨dk1, dk2⟩ := kBz hdk
  have hilt := (List.getElem?_eq_some_iff.1 ho).1
  cases x with
  | tmp t =>
    have hlook : t ∈ o.looksAt l.toArray := by
      unfold Oper.looksAt
      simp only [List.mem_append, List.mem_filterMap]
      exact .inl ⟨.tmp t, hx, rfl⟩
    exact hi.slots i (by omega) t (.inr ⟨hD, o, ho, hlook⟩) fun m om h1 h2 h3 => by
      rcases dk2 m i om o h1 h2 ho with hb | hap
      · exact kCm hi.closed ho hready hb (by omega)
      · exact absurd hlook (kDf (kB0 hap).1 h3).1
  | const v => exact ofVal_rep v
  | global g => exact .top
  | func f => exact .fn (by rfl) fun i c v h => by simp at h
theorem Inv.op (henv : kBr P env) (hdk : kDk l = true) (ht : kCb P l env Ts Hs) {ρ0 ρ : RM} {w0 w : World} {D D' : Nat → Prop} {a : Act} (hi : Inv P X l Ts Hs ρ0 w0 D a w ρ) {i : Nat} {o : Oper} (ho : l[i]? = some o) (hD : ¬ D i) (hready : ∀ e ∈ kCi o, D e)
    (hD' : ∀ x, D' x ↔ D x ∨ x = i) {Q : Exit → Act → World → Prop} {K : Act → World → Prop} (hk' : ∀ a' w' ρ', Inv P X l Ts Hs ρ0 w0 D' a' w' ρ' → K a' w') : wpOp P l.toArray Q i K a w := by
  obtain ⟨dk1, dk2⟩ := kBz hdk
  have hilt := (List.getElem?_eq_some_iff.1 ho).1
  have hord : ∀ m om, m < i → l[m]? = some om → D m ∨ kF3 l.toArray om o = true := fun m om h1 h2 => (dk2 m i om o h1 h2 ho).imp (fun hb => kCm hi.closed ho hready hb (by omega)) id
  have hord2 : ∀ m om, i < m → l[m]? = some om → ¬ D m ∨ kF3 l.toArray o om = true := fun m om h1 h2 => by
    rcases dk2 i m o om h1 ho h2 with hb | hap
    · exact .inl fun hDm => hD (kFd hi.closed hDm hb)
    · exact .inr hap
  unfold wpOp
  have hoa : l.toArray[i]? = some o := by simpa using ho
  rw [hoa]
  simp only
  obtain ⟨v, hts, ⟨hg, hd⟩ | ⟨hg, hv, hh⟩⟩ := ht i o ho
  · rw [hi.wanted hdk ht ho hD hready hg]
    simp only [if_true]
    left
    obtain ⟨q, q1, q2, q3, q4⟩ := hi.heap
    have hops := hi.operand hdk ho hD hready
    cases hkind : hk o.op with
    | write =>
      have hiw : isW l i := ⟨o, ho, hkind⟩
      have hqi : q = i := by
        rcases Nat.lt_trichotomy q i with h | h | h
        · obtain ⟨⟨oq, hoq, hkq⟩, hnq⟩ := q3 (by omega)
          rcases hord q oq h hoq with h' | h'
          · exact absurd h' hnq
          · have := (kB0 h').2
            rw [hkq, hkind] at this
            simp at this
        · exact h
        · exact absurd (q2 i h hiw) hD
      subst hqi
      refine (opS (X := X) henv rfl hd q4 hops).wp fun u w' hw => ?_
      obtain ⟨ρ', p1, p2, p3⟩ := hw
      refine hk' _ _ ρ' (hi.next hdk ht ho hD hready hD' hts p2 p3 ?_ fun m hm hnm x hx1 hx2 => ?_)
      · obtain ⟨q', r1, r2, r3, r4⟩ := kCx l (l.length - (q + 1)) (q + 1) (by omega)
        refine ⟨q', r2, fun m hm hmw => ?_, fun hlt => ⟨r4 hlt, fun hDq => ?_⟩, p1.pfx (ht.pre henv q' r1 r2 r3)⟩
        · rcases Nat.lt_trichotomy m q with h | h | h
          · exact (hD' m).2 (.inl (q2 m h hmw))
          · exact (hD' m).2 (.inr h)
          · exact absurd hmw (r3 m (by omega) hm)
        · obtain ⟨oq, hoq, hkq⟩ := r4 hlt
          rcases (hD' q').1 hDq with h | h
          · rcases hord2 q' oq (by omega) hoq with h' | h'
            · exact h' h
            · have := (kB0 h').2
              rw [hkq, hkind] at this
              simp at this
          · omega
      · rcases Nat.lt_trichotomy m q with h | h | h
        · have hDm : ¬ D m := fun h' => hnm ((hD' m).2 (.inl h'))
          have hom : l[m]? = some (l[m]'hm) := List.getElem?_eq_getElem hm
          rcases hord m _ h hom with h' | h'
          · exact absurd h' hDm
          · have := (kB0 h').2
            rw [hkind] at this
            simp at this
            have hf := (ht.step henv hom).2.1 this
            rw [hf] at hx2
            omega
        · exact absurd ((hD' m).2 (.inr h)) hnm
        · have h1 := ht.mono henv m (show q + 1 ≤ m by omega) (by omega)
          exact p1.fresh (by omega)
    | read =>
      have hiq : i < q := by
        rcases Nat.lt_trichotomy q i with h | h | h
        · obtain ⟨⟨oq, hoq, hkq⟩, hnq⟩ := q3 (by omega)
          rcases hord q oq h hoq with h' | h'
          · exact absurd h' hnq
          · have := (kB0 h').2
            rw [hkq, hkind] at this
            simp at this
        · subst h
          obtain ⟨⟨oq, hoq, hkq⟩, _⟩ := q3 hilt
          rw [ho] at hoq
          cases hoq
          rw [hkind] at hkq
          cases hkq
        · exact h
      have hpre : Hs (i + 1) <+: Hs q := ht.pre henv q (by omega) q1 fun m h1 h2 hmw => by
        obtain ⟨om, hom, hkm⟩ := hmw
        rcases hord2 m om (by omega) hom with h' | h'
        · exact h' (q2 m h2 ⟨om, hom, hkm⟩)
        · have := (kB0 h').2
          rw [hkm, hkind] at this
          simp at this
      refine ((opE henv rfl hd (by rw [hkind]; intro e; cases e)).2 X ρ w (Hs q) a.eval hpre q4 (hi.news i hilt hD) hops).wp fun u w' hw => ?_
      obtain ⟨ρ', p1, p2, p3, p4⟩ := hw
      refine hk' _ _ ρ' (hi.next hdk ht ho hD hready hD' hts p2 p3 ⟨q, q1, fun m hm hmw => (hD' m).2 (.inl (q2 m hm hmw)), fun hlt => ⟨(q3 hlt).1, fun h => ?_⟩, p1⟩ fun m hm hnm x hx1 hx2 => ?_)
      · rcases (hD' q).1 h with h | h
        · exact (q3 hlt).2 h
        · omega
      · have hDm : ¬ D m := fun h' => hnm ((hD' m).2 (.inl h'))
        have hne : m ≠ i := fun h' => hnm ((hD' m).2 (.inr h'))
        have hρ := hi.news m hm hDm x hx1 hx2
        cases hx : ρ' x with
        | none => rfl
        | some io =>
          rcases p4 x (by rw [hx]; intro e; cases e) with h | ⟨h1, h2⟩
          · exact absurd hρ h
          · rcases Nat.lt_or_gt_of_ne hne with h | h
            · have := ht.mono henv i (show m + 1 ≤ i by omega) (by omega)
              omega
            · have := ht.mono henv m (show i + 1 ≤ m by omega) (by omega)
              omega
    | free =>
      obtain ⟨hh, hany⟩ := kFf hkind hd
      have hd2 := hany (Hs q)
      refine ((opE henv rfl hd2 (by rw [hkind]; intro e; cases e)).2 X ρ w (Hs q) a.eval (List.prefix_refl _) q4 (fun x h1 h2 => by omega) hops).wp fun u w' hw => ?_
      obtain ⟨ρ', p1, p2, p3, p4⟩ := hw
      have hdom : ∀ x, ρ x = none → ρ' x = none := fun x hx => by
        cases hx' : ρ' x with
        | none => rfl
        | some io =>
          rcases p4 x (by rw [hx']; intro e; cases e) with h | ⟨h1, h2⟩
          · exact absurd hx h
          · omega
      have hqi : q ≠ i := fun e => by
        subst e
        obtain ⟨⟨oq, hoq, hkq⟩, _⟩ := q3 hilt
        rw [ho] at hoq
        cases hoq
        rw [hkind] at hkq
        cases hkq
      refine hk' _ _ ρ' (hi.next hdk ht ho hD hready hD' hts p2 p3 ⟨q, q1, fun m hm hmw => (hD' m).2 (.inl (q2 m hm hmw)), fun hlt => ⟨(q3 hlt).1, fun h => ?_⟩, p1⟩ fun m hm hnm x hx1 hx2 => ?_)
      · rcases (hD' q).1 h with h | h
        · exact (q3 hlt).2 h
        · exact hqi h
      · exact hdom x (hi.news m hm (fun h' => hnm ((hD' m).2 (.inl h'))) x hx1 hx2)
  · rw [hi.wanted hdk ht ho hD hready hg]
    simp only [Bool.false_eq_true, if_false]
    obtain ⟨q, q1, q2, q3, q4⟩ := hi.heap
    subst hv
    by_cases hqi : q = i
    · subst hqi
      obtain ⟨q', r1, r2, r3, r4⟩ := kCx l (l.length - (q + 1)) (q + 1) (by omega)
      obtain ⟨⟨oq, hoq, hkq⟩, _⟩ := q3 hilt
      rw [ho] at hoq
      cases hoq
      refine hk' _ _ ρ (hi.next hdk ht ho hD hready hD' hts (Step.refl _ _) kFx ⟨q', r2, fun m hm hmw => ?_, fun hlt => ⟨r4 hlt, fun hDq => ?_⟩, ?_⟩ fun m hm hnm => hi.news m hm (fun h' => hnm ((hD' m).2 (.inl h'))))
      · rcases Nat.lt_trichotomy m q with h | h | h
        · exact (hD' m).2 (.inl (q2 m h hmw))
        · exact (hD' m).2 (.inr h)
        · exact absurd hmw (r3 m (by omega) hm)
      · obtain ⟨om, hom, hkm⟩ := r4 hlt
        rcases (hD' q').1 hDq with h | h
        · rcases hord2 q' om (by omega) hom with h' | h'
          · exact h' h
          · have := (kB0 h').2
            rw [hkm, hkq] at this
            simp at this
        · omega
      · have h1 := ht.pre henv q' r1 r2 r3
        rw [hh] at h1
        exact q4.pfx h1
    · refine hk' _ _ ρ (hi.next hdk ht ho hD hready hD' hts (Step.refl _ _) kFx ⟨q, q1, fun m hm hmw => (hD' m).2 (.inl (q2 m hm hmw)), fun hlt => ⟨(q3 hlt).1, fun h => ?_⟩, q4⟩ fun m hm hnm => hi.news m hm (fun h' => hnm ((hD' m).2 (.inl h'))))
      rcases (hD' q).1 h with h | h
      · exact (q3 hlt).2 h
      · exact hqi h
theorem any_ok (henv : kBr P env) (hdk : kDk l = true) (ht : kCb P l env Ts Hs) {ρ0 : RM} {w0 : World} {Q : Exit → Act → World → Prop} (hQ : ∀ a w ρ D, (∀ i, i < l.length → D i) → Inv P X l Ts Hs ρ0 w0 D a w ρ → Q .normal a w) :
    ∀ (fuel : Nat) (listed : Array Bool) (a : Act) (w : World) (ρ : RM) (U : List Nat), listed.size = l.length → U.length = fuel → (∀ i, i < l.length → listed.getD i false = false → i ∈ U) →
      Inv P X l Ts Hs ρ0 w0 (fun i => listed.getD i false = true) a w ρ → wpAny P .any l.toArray Q fuel listed a w := by
  obtain ⟨dk1, dk2⟩ := kBz hdk
  have hnone : ∀ (listed : Array Bool), listed.size = l.length → Region.ready .any l.toArray listed = [] → ∀ i, i < l.length → listed.getD i false = true := fun listed hsz hr i => by
    induction i using Nat.strongRecOn with
    | _ i ih =>
      intro hi
      cases hli : listed.getD i false with
      | true => rfl
      | false =>
        have : i ∈ Region.ready .any l.toArray listed := mem_ready.2 ⟨by
          rw [Array.getD_eq_getD_getElem?, Array.getElem?_eq_getElem (by omega)] at hli ⊢
          exact hli, l[i], by simp [hi], fun e he hb => ih e.on (dk1 i l[i] (List.getElem?_eq_getElem hi) e.on (by
          unfold kCi
          rw [List.mem_filterMap]
          exact ⟨e, by simpa using he, by rw [if_pos hb]⟩)) (by
          have := dk1 i l[i] (List.getElem?_eq_getElem hi) e.on (by
            unfold kCi
            rw [List.mem_filterMap]
            exact ⟨e, by simpa using he, by rw [if_pos hb]⟩)
          omega)⟩
        rw [hr] at this
        cases this
  intro fuel
  induction fuel with
  | zero =>
    intro listed a w ρ U hsz hU hall hi
    have hall' : ∀ i, i < l.length → listed.getD i false = true := fun i hlt => by
      cases h : listed.getD i false with
      | true => rfl
      | false =>
        have := hall i hlt h
        rw [List.eq_nil_of_length_eq_zero hU] at this
        cases this
    refine ⟨?_, hQ a w ρ _ hall' hi⟩
    cases hr : Region.ready .any l.toArray listed with
    | nil => rfl
    | cons x xs =>
      have hx : x ∈ Region.ready .any l.toArray listed := by rw [hr]; simp
      obtain ⟨h1, o, h2, _⟩ := mem_ready.1 hx
      have hlt : x < l.length := by have := (Array.getElem?_eq_some_iff.1 h2).1; simpa using this
      have := hall' x hlt
      rw [Array.getD_eq_getD_getElem?, Array.getElem?_eq_getElem (by omega)] at this h1
      simp at this h1
      rw [this] at h1
      cases h1
  | succ fuel ih =>
    intro listed a w ρ U hsz hU hall hi
    refine ⟨fun hr => hQ a w ρ _ (hnone listed hsz hr) hi, fun i hir => ?_⟩
    obtain ⟨h1, o, h2, h3⟩ := mem_ready.1 hir
    have ho : l[i]? = some o := by simpa using h2
    have hlt := (List.getElem?_eq_some_iff.1 ho).1
    have hli : listed.getD i false = false := by
      rw [Array.getD_eq_getD_getElem?, Array.getElem?_eq_getElem (by omega)] at h1 ⊢
      exact h1
    refine hi.op (D' := fun x => (listed.setIfInBounds i true).getD x false = true) henv hdk ht ho (by rw [hli]; intro e; cases e) (fun e he => ?_) (fun x => ?_) fun a' w' ρ' hi' => ih _ a' w' ρ' (U.erase i) (by simpa using hsz) ?_ (fun m hm hml => ?_) hi'
    · unfold kCi at he
      rw [List.mem_filterMap] at he
      obtain ⟨e', g1, g2⟩ := he
      split at g2
      · rename_i hb
        cases g2
        exact h3 e' (by simpa using g1) hb
      · cases g2
    · by_cases hx : x = i
      · subst hx
        simp only [or_true, iff_true]
        rw [Array.getD_eq_getD_getElem?, Array.getElem?_setIfInBounds, if_pos rfl, if_pos (by omega)]
        rfl
      · rw [Array.getD_eq_getD_getElem?, Array.getElem?_setIfInBounds, if_neg (Ne.symm hx), ← Array.getD_eq_getD_getElem?]
        simp [hx]
    · rw [List.length_erase_of_mem (hall i hlt hli)]
      omega
    · have hne : m ≠ i := fun e => by
        subst e
        rw [Array.getD_eq_getD_getElem?, Array.getElem?_setIfInBounds, if_pos rfl, if_pos (by omega)] at hml
        cases hml
      rw [Array.getD_eq_getD_getElem?, Array.getElem?_setIfInBounds, if_neg (Ne.symm hne), ← Array.getD_eq_getD_getElem?] at hml
      exact (List.mem_erase_of_ne hne).2 (hall m hm hml)
end
theorem drawRegion_ok {env : Nat → Contract} (henv : kBr P env) (hm : P.follows .mixedOrders = true) {id : Nat} {ops : Array Oper} {R : Type} {tm : TM} {h : kA4} {a : Act} {w : World} {K : TM → kA4 → Option R} {y : R} {ρ0 : RM} {w0 : World} {Q : Exit → Act → World → Prop}
    (hdk : kDk ops.toList = true) (hd : kCf P env true ops.toList (kGf ops.toList) tm h K = some y) (hs : St P N X ρ0 w0 tm h a w) (hk : ∀ tm' h' a' w', K tm' h' = some y → St P N X ρ0 w0 tm' h' a' w' → Q .normal a' w') : (Code.region id ops true).wp P Q a w := by
  obtain ⟨Ts, Hs, t1, t2, t3, t4⟩ := kIh ops.toList 0 tm h K y hd
  have ht : kCb P ops.toList env Ts Hs := fun i o ho => by have := t3 i o ho; simpa using this
  obtain ⟨ρ, s1, s2, s3⟩ := hs.ex
  have hsd : Step ρ w ρ w.drew := Step.drew ρ w
  refine wp_region_any hm ?_
  have hall := any_ok (X := X) (ρ0 := ρ0) (w0 := w0) (Q := Q) henv hdk ht (fun a' w' ρ' D hD hi => by
    obtain ⟨q, q1, q2, q3, q4⟩ := hi.heap
    have hq : q = ops.toList.length := by
      by_cases e : q < ops.toList.length
      · exact absurd (hD q e) (q3 e).2
      · omega
    subst hq
    rw [Nat.zero_add] at t4
    refine hk _ _ a' w' t4 ⟨⟨ρ', hi.step, q4, ⟨by rw [hi.tsize, ht.len _ (Nat.le_refl _)], fun t c v h1 h2 => ?_⟩⟩, hi.defers, by rw [hi.tsize, t1, ← s3.size]; exact hs.size⟩
    have := hi.slots ops.toList.length (Nat.le_refl _) t (.inl rfl) fun i o hlt _ _ => hD i hlt
    rw [List.getD_eq_getElem?_getD, h1, Array.getD_eq_getD_getElem?, h2] at this
    exact this) ops.toList.length (Array.replicate ops.size false) a w.drew ρ (List.range ops.toList.length) (by simp) (by simp) (fun i hi _ => by simpa using hi)
  have hfalse : ∀ i, (Array.replicate ops.size false).getD i false = false := fun i => by
    rw [Array.getD_eq_getD_getElem?, Array.getElem?_replicate]
    split <;> rfl
  have := hall ⟨fun j o _ hj => (by rw [hfalse] at hj; cases hj), s1.trans hsd, hs.defers, by
      obtain ⟨q, r1, r2, r3, r4⟩ := kCx ops.toList ops.toList.length 0 (by omega)
      refine ⟨q, r2, fun i hi hw => absurd hw (r3 i (by omega) hi), fun hlt => ⟨r4 hlt, (by rw [hfalse]; intro e; cases e)⟩, ?_⟩
      have := ht.pre henv q r1 r2 r3
      rw [t2] at this
      exact s2.drew.pfx this,
    fun i hi _ x hx1 _ => s2.fresh (by
      have := ht.mono henv i (Nat.zero_le i) (by omega)
      rw [t2] at this
      omega),
    by rw [t1]; exact s3.size,
    fun j hj t hr hw => by
      have h0 : (Ts j)[t]? = (Ts 0)[t]? := ht.same j (Nat.zero_le _) hj fun m o _ h2 h3 h4 => by
        have := hw m o h2 h3 h4
        rw [hfalse] at this
        cases this
      rw [List.getD_eq_getElem?_getD, h0, t1, ← List.getD_eq_getElem?_getD]
      exact (s3.step hsd).getD t⟩
  simpa using this
end Go.Eng
