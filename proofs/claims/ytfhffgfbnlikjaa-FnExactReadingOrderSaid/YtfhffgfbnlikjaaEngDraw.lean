import Derived.Test.YtfhffgfbnlikjaaEngRun
namespace Go.Eng
set_option linter.unusedVariables false
set_option linter.unusedSimpArgs false
open Go.RowKit
variable {P : Program} {X : Nat → Prop} {w : World} {ρ : RM}
theorem foldl_bit (acc : List Nat) (i : Nat) : ∀ (es : List Nat) (s : Nat), (es.foldl (fun s e => s ||| 2 ^ e ||| acc.getD e 0) s).testBit i = true → s.testBit i = true ∨ ∃ e ∈ es, i = e ∨ (acc.getD e 0).testBit i = true
  | [], s, h => .inl h
  | e :: es, s, h => by
    simp only [List.foldl_cons] at h
    rcases foldl_bit acc i es _ h with h | ⟨e', h1, h2⟩
    · rw [Nat.testBit_or, Nat.testBit_or, Nat.testBit_two_pow] at h
      simp only [Bool.or_eq_true, decide_eq_true_eq] at h
      rcases h with (h | h) | h
      · exact .inl h
      · exact .inr ⟨e, by simp, .inl h.symm⟩
      · exact .inr ⟨e, by simp, .inr h⟩
    · exact .inr ⟨e', by simp [h1], h2⟩
theorem kGd {l : List Oper} {S : Nat → Prop} (hS : ∀ j o, l[j]? = some o → S j → ∀ e ∈ kCi o, S e) : ∀ (os : List Oper) (acc : List Nat), (∀ i, os[i]? = l[acc.length + i]?) →
    (∀ j i, j < acc.length → S j → (acc.getD j 0).testBit i = true → S i) → acc.length + os.length = l.length →
    (∀ j i, S j → ((masks os acc).getD j 0).testBit i = true → S i) ∧ ∃ t, masks os acc = acc ++ t
  | [], acc, _, h, hl => ⟨fun j i hj hb => by
      by_cases hlt : j < acc.length
      · exact h j i hlt hj hb
      · simp only [masks] at hb
        rw [List.getD_eq_getElem?_getD, List.getElem?_eq_none (by omega)] at hb
        simp at hb, [], by simp [masks]⟩
  | o :: os, acc, ho, h, hl => by
    have h0 : l[acc.length]? = some o := by rw [← Nat.add_zero acc.length, ← ho 0]; rfl
    obtain ⟨g1, t, g2⟩ := kGd hS os (acc ++ [maskOf acc o]) (fun i => by
        have := ho (i + 1)
        simp only [List.getElem?_cons_succ] at this
        rw [this, List.length_append]
        congr 1
        simp
        omega) (fun j i hlt hj hb => by
      simp only [List.length_append, List.length_singleton] at hlt
      by_cases hj' : j < acc.length
      · rw [List.getD_eq_getElem?_getD, List.getElem?_append_left hj', ← List.getD_eq_getElem?_getD] at hb
        exact h j i hj' hj hb
      · have : j = acc.length := by omega
        subst this
        rw [List.getD_eq_getElem?_getD, List.getElem?_append_right (Nat.le_refl _)] at hb
        simp only [Nat.sub_self, List.getElem?_cons_zero, Option.getD_some] at hb
        rcases foldl_bit acc i _ _ hb with hb | ⟨e, e1, e2⟩
        · simp at hb
        · have hse := hS _ o h0 hj e e1
          rcases e2 with rfl | e2
          · exact hse
          · refine h e i ?_ hse e2
            by_cases hlt' : e < acc.length
            · exact hlt'
            · rw [List.getD_eq_getElem?_getD, List.getElem?_eq_none (by omega)] at e2
              simp at e2) (by simp at hl ⊢; omega)
    exact ⟨g1, maskOf acc o :: t, by rw [masks, g2]; simp⟩
theorem kCm {l : List Oper} {S : Nat → Prop} (hS : ∀ j o, l[j]? = some o → S j → ∀ e ∈ kCi o, S e) {j : Nat} {o : Oper} (ho : l[j]? = some o) (hr : ∀ e ∈ kCi o, S e) {i : Nat} (hb : ((masks l []).getD j 0).testBit i = true) (hij : i ≠ j) : S i := by
  have := (kGd (l := l) (S := fun x => S x ∨ x = j) (fun x o' hx hs e he => by
    rcases hs with hs | rfl
    · exact .inl (hS x o' hx hs e he)
    · rw [ho] at hx; cases hx; exact .inl (hr e he)) l [] (by simp) (fun _ _ h => by simp at h) (by simp)).1 j i (.inr rfl) hb
  exact this.resolve_right hij
theorem kFd {l : List Oper} {S : Nat → Prop} (hS : ∀ j o, l[j]? = some o → S j → ∀ e ∈ kCi o, S e) {j i : Nat} (hj : S j) (hb : ((masks l []).getD j 0).testBit i = true) : S i :=
  (kGd hS l [] (by simp) (fun _ _ h => by simp at h) (by simp)).1 j i hj hb
theorem kBz {l : List Oper} (h : kDk l = true) : (∀ j o, l[j]? = some o → ∀ e ∈ kCi o, e < j) ∧
    ∀ i j oi oj, i < j → l[i]? = some oi → l[j]? = some oj → ((masks l []).getD j 0).testBit i = true ∨ kF3 l.toArray oi oj = true := by
  unfold kDk at h
  rw [List.all_eq_true] at h
  refine ⟨fun j o ho e he => ?_, fun i j oi oj hij hi hj => ?_⟩
  · have h1 := h j (by simpa using (List.getElem?_eq_some_iff.1 ho).1)
    rw [ho] at h1
    simp only [Bool.and_eq_true, List.all_eq_true, decide_eq_true_eq] at h1
    exact h1.1 e he
  · have h1 := h j (by simpa using (List.getElem?_eq_some_iff.1 hj).1)
    rw [hj] at h1
    simp only [Bool.and_eq_true, List.all_eq_true] at h1
    have h2 := h1.2 i (by simpa using hij)
    rw [hi] at h2
    simpa using h2
theorem kB0 {ops : Array Oper} {x y : Oper} (h : kF3 ops x y = true) : x.apart ops y = true ∧ (hk x.op = .free ∨ hk y.op = .free ∨ (hk x.op = .read ∧ hk y.op = .read)) := by
  unfold kF3 at h
  simp only [Bool.and_eq_true] at h
  refine ⟨h.1, ?_⟩
  have h2 := h.2
  cases hx : hk x.op <;> cases hy : hk y.op <;> simp [hx, hy] at h2 ⊢
def kD6 (l : List Oper) (tm : TM) (o : Oper) : Option Bool :=
  match o.guard with
  | none => some true
  | some (j, want) => match yv l tm j with
    | .sc (.bool b) => some (b == want)
    | .tup [] => some false
    | _ => none
def StepA (P : Program) (l : List Oper) (env : Nat → Contract) (o : Oper) (tm : TM) (h : kA4) (tm' : TM) (h' : kA4) : Prop :=
  ∃ v, tm' = kFg tm o.dst v ∧ ((kD6 l tm o = some true ∧ kBq P env true tm h o.op (fun v h => some (v, h)) = some (v, h')) ∨ (kD6 l tm o = some false ∧ v = und ∧ h' = h))
theorem setD_lastVal {tm : TM} {o : Oper} {v : AV} : kFg tm o.dst (kFu (kFg tm o.dst v) [o]) = kFg tm o.dst v := by
  cases hd : o.dst with
  | none => rfl
  | some d =>
    simp only [kFu, hd, kFg]
    apply List.ext_getElem?
    intro t
    by_cases e : d = t
    · subst e
      simp only [List.getElem?_set, if_true]
      split
      · rename_i h
        rw [List.getD_eq_getElem?_getD, List.getElem?_set_self h]
        rfl
      · rfl
    · simp [List.getElem?_set_ne e]
theorem kIh {env : Nat → Contract} {l : List Oper} {R : Type} : ∀ (os : List Oper) (k : Nat) (tm : TM) (h : kA4) (K : TM → kA4 → Option R) (y : R), kCf P env true l (kGf os) tm h K = some y →
    ∃ (Ts : Nat → TM) (Hs : Nat → kA4), Ts k = tm ∧ Hs k = h ∧ (∀ i o, os[i]? = some o → StepA P l env o (Ts (k + i)) (Hs (k + i)) (Ts (k + i + 1)) (Hs (k + i + 1))) ∧ K (Ts (k + os.length)) (Hs (k + os.length)) = some y
  | [], k, tm, h, K, y, hd => ⟨fun _ => tm, fun _ => h, rfl, rfl, by simp, hd⟩
  | o :: os, k, tm, h, K, y, hd => by
    have key : ∃ v h', StepA P l env o tm h (kFg tm o.dst v) h' ∧ kCf P env true l (kGf os) (kFg tm o.dst v) h' K = some y := by
      simp only [kGf] at hd
      cases hg : o.guard with
      | none =>
        rw [hg] at hd
        simp only [kCf, kIg] at hd
        rw [kEq] at hd
        obtain ⟨v, h', h1, h2⟩ := kAu hd
        exact ⟨v, h', ⟨v, rfl, .inl ⟨by simp [kD6, hg], h1⟩⟩, h2⟩
      | some g =>
        obtain ⟨j, want⟩ := g
        rw [hg] at hd
        simp only [kCf] at hd
        obtain ⟨v, h', h1, h2⟩ := kAu hd
        simp only [setRun] at h2
        unfold kAd at h1
        split at h1
        · rename_i b hb
          cases hbw : (b == want) with
          | true =>
            rw [hbw] at h1
            simp only [cond_true, kIg] at h1
            rw [kEq] at h1
            obtain ⟨v0, h0, p1, p2⟩ := kAu h1
            simp only [Option.some.injEq, Prod.mk.injEq] at p2
            obtain ⟨rfl, rfl⟩ := p2
            rw [setD_lastVal] at h2
            exact ⟨v0, h0, ⟨v0, rfl, .inl ⟨by simp only [kD6, hg, hb, hbw], p1⟩⟩, h2⟩
          | false =>
            rw [hbw] at h1
            simp only [cond_false, Option.some.injEq, Prod.mk.injEq] at h1
            obtain ⟨rfl, rfl⟩ := h1
            exact ⟨und, h, ⟨und, rfl, .inr ⟨by simp only [kD6, hg, hb, hbw], rfl, rfl⟩⟩, h2⟩
        · rename_i hb
          simp only [Option.some.injEq, Prod.mk.injEq] at h1
          obtain ⟨rfl, rfl⟩ := h1
          exact ⟨und, h, ⟨und, rfl, .inr ⟨by simp only [kD6, hg, hb], rfl, rfl⟩⟩, h2⟩
        · cases h1
    obtain ⟨v, h', h1, h2⟩ := key
    obtain ⟨Ts, Hs, t1, t2, t3, t4⟩ := kIh os (k + 1) (kFg tm o.dst v) h' K y h2
    refine ⟨fun x => if x = k then tm else Ts x, fun x => if x = k then h else Hs x, by simp, by simp, fun i o' ho' => ?_, ?_⟩
    · match i with
      | 0 =>
        simp at ho'
        subst ho'
        simp only [Nat.add_zero, if_true]
        rw [if_neg (by omega), if_neg (by omega), t1, t2]
        exact h1
      | i + 1 =>
        have := t3 i o' (by simpa using ho')
        rw [show k + 1 + i = k + (i + 1) by omega] at this
        dsimp only
        rw [if_neg (by omega), if_neg (by omega), if_neg (by omega), if_neg (by omega)]
        exact this
    · dsimp only
      rw [if_neg (by simp), if_neg (by simp)]
      rw [show k + (o :: os).length = k + 1 + os.length by simp; omega]
      exact t4
theorem kFf {env : Nat → Contract} {q : Bool} {tm : TM} {h h' : kA4} {op : Op} {v : AV} (hf : hk op = .free) (hd : kBq P env q tm h op (fun v h => some (v, h)) = some (v, h')) :
    h' = h ∧ ∀ h2, kBq P env q tm h2 op (fun v h => some (v, h)) = some (v, h2) := by
  cases op
  case alloc => have hx : HK.read = HK.free := hf; cases hx
  case box => have hx : HK.read = HK.free := hf; cases hx
  case buildSlice => have hx : HK.read = HK.free := hf; cases hx
  case insert => have hx : HK.read = HK.free := hf; cases hx
  case load => have hx : HK.read = HK.free := hf; cases hx
  case ready => have hx : HK.read = HK.free := hf; cases hx
  case waits => have hx : HK.read = HK.free := hf; cases hx
  case convert => have hx : HK.read = HK.free := hf; cases hx
  case sliceToArrayPointer => have hx : HK.read = HK.free := hf; cases hx
  case makeInterface => have hx : HK.read = HK.free := hf; cases hx
  case makeMap => have hx : HK.read = HK.free := hf; cases hx
  case makeChan => have hx : HK.read = HK.free := hf; cases hx
  case makeSlice => have hx : HK.read = HK.free := hf; cases hx
  case slice => have hx : HK.read = HK.free := hf; cases hx
  case indexAddr => have hx : HK.read = HK.free := hf; cases hx
  case lookup => have hx : HK.read = HK.free := hf; cases hx
  case mapUpdate => have hx : HK.read = HK.free := hf; cases hx
  case mapEntry => have hx : HK.read = HK.free := hf; cases hx
  case entryStore => have hx : HK.read = HK.free := hf; cases hx
  case range => have hx : HK.read = HK.free := hf; cases hx
  case next => have hx : HK.read = HK.free := hf; cases hx
  case entry => have hx : HK.read = HK.free := hf; cases hx
  case typeAssert => have hx : HK.read = HK.free := hf; cases hx
  case go => have hx : HK.read = HK.free := hf; cases hx
  case defer => have hx : HK.read = HK.free := hf; cases hx
  case panic => have hx : HK.read = HK.free := hf; cases hx
  case send => have hx : HK.read = HK.free := hf; cases hx
  case recv => have hx : HK.read = HK.free := hf; cases hx
  case select => have hx : HK.read = HK.free := hf; cases hx
  case store => have hx : HK.write = HK.free := hf; cases hx
  case makeFunc fn first captured =>
    cases fn <;> simp only [kBq] at hd ⊢ <;> first | (cases hd; done) | skip
    split at hd
    · rename_i h0
      cases hd
      exact ⟨rfl, fun h2 => by rw [if_pos h0]⟩
    · cases hd
  all_goals simp only [kBq] at hd ⊢
  case call c =>
    obtain ⟨callee, args, ts⟩ := c
    cases callee with
    | builtin b =>
      simp only [kDo, kCu] at hd ⊢
      split at hd
      · split at hd
        · rename_i k hk'
          obtain ⟨y, h1, h2⟩ := kAl hd
          cases h2
          exact ⟨rfl, fun h2 => by rw [h1]; rfl⟩
        · cases hd
      · exact absurd (show HK.write = HK.free from hf) (by decide)
      · obtain ⟨y, h1, h2⟩ := kAl hd
        cases h2
        exact ⟨rfl, fun h2 => by rw [h1]; rfl⟩
      · obtain ⟨y, h1, h2⟩ := kAl hd
        cases h2
        exact ⟨rfl, fun h2 => by rw [h1]; rfl⟩
      · cases hd
    | value f => exact absurd (show HK.read = HK.free from hf) (by decide)
    | invoke a b => exact absurd (show HK.read = HK.free from hf) (by decide)
  all_goals (repeat' split at hd) <;> first
    | (cases hd; done)
    | (cases hd; exact ⟨rfl, fun h2 => by first | rfl | simp_all⟩)
    | (
          obtain ⟨y, h1, h2⟩ := kAl hd
          cases h2
          refine ⟨rfl, fun h2 => ?_⟩
          first | (rw [h1]; rfl) | (simp_all [kA0]; done))
end Go.Eng
