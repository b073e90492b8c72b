/-
  The law FnExactSetBigram holds, for all arguments: it returns true, and its arguments read behind the call as before. No condition.
-/
import Derived.Test.YtkamngokmkncjaaFnExactSetBigramPartA
import Derived.Test.YtkamngokmkncjaaRows
namespace Go.Proofs.Ytkamngokmkncjaa
open Go Go.Eng Go.Eng.Cod
set_option maxRecDepth 100000
set_option linter.unusedVariables false
set_option linter.unusedSimpArgs false

theorem PtV.box {p : Point} (h : PtV p) : InB (pbox p) ⟨0, 0, 4095, 4095⟩ := ⟨h.x0, h.y0, h.x1, h.y1⟩

def side (b : Box) : Int := max (max (b.x2 - b.x1) (b.y2 - b.y1)) 1

/-- A table is built, element by element. -/
theorem mapLoop {A B : Type} (d : B) (f : A → B) (l : List A) (hl : l.length ≤ 4294967296) (step : ((Sl B) × Int) → Option (Sum ((Sl B) × Int) (Sl B)))
    (next : ∀ (M : List B) (k : Nat) (a : A), M.length = l.length → l[k]? = some a → step (some M, (k : Int)) = some (.inl (some (M.set k (f a)), wr ((k : Int) + 1))))
    (fin : ∀ w : Sl B, step (w, ((l.length : Nat) : Int)) = some (.inr w)) : loopT step (some (List.replicate l.length d), 0) = some (some (l.map f)) := by
  obtain ⟨r, h1, h2⟩ := loopT_ex (step := step) (fun k t => ∃ M, t = (some M, (k : Int)) ∧ M.length = l.length ∧ ∀ j, j < k → M[j]? = (l.map f)[j]?) l.length (fun r => r = some (l.map f))
    (fun k t hk ht => by
      obtain ⟨M, rfl, m1, m2⟩ := ht
      obtain ⟨a, ha⟩ : ∃ a, l[k]? = some a := ⟨l[k], List.getElem?_eq_getElem hk⟩
      have e := next M k a m1 ha
      rw [wr_succ hk hl] at e
      refine .inl ⟨_, e, _, rfl, by rw [List.length_set, m1], fun j hj => ?_⟩
      by_cases c : j = k
      · subst c
        rw [List.getElem?_set_self (by omega), List.getElem?_map, ha]
        rfl
      · rw [List.getElem?_set_ne (fun h => c h.symm)]
        exact m2 j (by omega))
    (fun t ht => by
      obtain ⟨M, rfl, m1, m2⟩ := ht
      refine ⟨_, fin _, ?_⟩
      congr 1
      apply List.ext_getElem?
      intro j
      by_cases c : j < l.length
      · exact m2 j c
      · rw [List.getElem?_eq_none (by omega), List.getElem?_eq_none (by simp; omega)])
    (s := (some (List.replicate l.length d), 0)) ⟨_, rfl, by simp, fun j hj => by omega⟩
  rw [h1, h2]

theorem make_len {A : Type} (d : A) {n : Nat} (h : n ≤ 4294967296) : makeO d ((n : Nat) : Int) = some (List.replicate n d) := by
  unfold makeO
  rw [if_pos ⟨by omega, by omega⟩, Int.toNat_natCast]

/-- All elements are alike. -/
theorem eqLoop {step : Int → Option (Sum Int (Sum Unit Bool))} (n : Nat) (hn : n ≤ 4294967296) (next : ∀ k : Nat, k < n → step (k : Int) = some (.inl (wr ((k : Int) + 1)))) (fin : step ((n : Nat) : Int) = some (.inr (.inl ()))) : loopT step 0 = some (.inl ()) := by
  obtain ⟨r, h1, h2⟩ := loopT_ex (step := step) (fun k t => t = (k : Int)) n (fun r => r = .inl ())
    (fun k t hk ht => by
      subst ht
      have e := next k hk
      rw [wr_succ hk hn] at e
      exact .inl ⟨_, e, rfl⟩)
    (fun t ht => by
      subst ht
      exact ⟨_, fin, rfl⟩) (s := 0) rfl
  rw [h1, h2]

/-- Sizes are counted down. -/
theorem szLoop {A : Type} (wt : A → Nat) (l : List A) (hl : l.length ≤ 1048576) (step : (Int × Int) → Option (Sum (Int × Int) (Sum Int Int)))
    (next : ∀ (w : Int) (k : Nat) (a : A), 0 ≤ w → w ≤ 1048576 → l[k]? = some a → step (w, (k : Int)) = some (.inr (.inr (-1))) ∨ ((wt a : Nat) : Int) ≤ w ∧ step (w, (k : Int)) = some (.inl (w - ((wt a : Nat) : Int), wr ((k : Int) + 1))))
    (fin : ∀ w, step (w, ((l.length : Nat) : Int)) = some (.inr (.inl w))) {w0 : Int} (h0 : 0 ≤ w0) (h1 : w0 ≤ 1048576) :
    loopT step (w0, 0) = some (.inr (-1)) ∨ ∃ r, loopT step (w0, 0) = some (.inl r) ∧ 0 ≤ r ∧ r = w0 - (((l.map wt).sum : Nat) : Int) := by
  obtain ⟨r, e, h⟩ := loopT_ex (step := step) (fun k t => ∃ w, t = (w, (k : Int)) ∧ 0 ≤ w ∧ w = w0 - ((((l.take k).map wt).sum : Nat) : Int)) l.length (fun r => r = .inr (-1) ∨ ∃ w, r = .inl w ∧ 0 ≤ w ∧ w = w0 - (((l.map wt).sum : Nat) : Int))
    (fun k t hk ⟨w, ht, w1, w2⟩ => by
      subst ht
      obtain ⟨a, ha⟩ : ∃ a, l[k]? = some a := ⟨l[k], List.getElem?_eq_getElem hk⟩
      rcases next w k a w1 (by omega) ha with h | ⟨h2, h⟩
      · exact .inr ⟨_, h, .inl rfl⟩
      · rw [wr_succ hk (show l.length ≤ 4294967296 by omega)] at h
        refine .inl ⟨_, h, _, rfl, by omega, ?_⟩
        have e1 : l.take (k + 1) = l.take k ++ [a] := by
          rw [List.take_succ_eq_append_getElem hk]
          rw [List.getElem?_eq_getElem hk] at ha
          rw [Option.some.inj ha]
        rw [e1, List.map_append, List.sum_append, List.map_cons, List.map_nil, List.sum_cons, List.sum_nil]
        omega)
    (fun t ⟨w, ht, w1, w2⟩ => by
      subst ht
      rw [List.take_length] at w2
      exact ⟨_, fin w, .inr ⟨w, rfl, w1, w2⟩⟩)
    (s := (w0, 0)) ⟨w0, rfl, h0, by simp⟩
  rcases h with rfl | ⟨w, rfl, w1, w2⟩
  · exact .inl e
  · exact .inr ⟨w, e, w1, w2⟩

/-- A size function counts down a weight. -/
def SzOK {A : Type} (t : A → Int → Option Int) (wt : A → Nat) (a : A) : Prop := ∀ k : Int, 0 ≤ k → k ≤ 1048576 → t a k = some (-1) ∨ ((wt a : Nat) : Int) ≤ k ∧ t a k = some (k - ((wt a : Nat) : Int))

def wtS {A : Type} (wt : A → Nat) (s : Sl A) : Nat := (s.getD []).length + ((s.getD []).map wt).sum

theorem wt_mem {A : Type} {wt : A → Nat} {s : Sl A} {a : A} (h : a ∈ s.getD []) : wt a ≤ wtS wt s := by
  have : ∀ l : List A, a ∈ l → wt a ≤ (l.map wt).sum := by
    intro l
    induction l with
    | nil => intro h; cases h
    | cons b l ih =>
      intro h
      rw [List.map_cons, List.sum_cons]
      rcases List.mem_cons.1 h with rfl | h
      · omega
      · have := ih h
        omega
  have := this _ h
  unfold wtS
  omega

theorem szS_ok {A : Type} {wt : A → Nat} {te : A → Int → Option Int} {s : Sl A} (hb : (s.getD []).length ≤ maxLen) (he : ∀ a ∈ s.getD [], SzOK te wt a) {t : Sl A → Int → Option Int} {step : (Int × Int) → Option (Sum (Int × Int) (Sum Int Int))}
    (ht : ∀ k, t s k = bif decide ((wr (k - (((s.getD []).length : Nat) : Int))) < 0) then some (-1) else obind (loopT step (wr (k - (((s.getD []).length : Nat) : Int)), 0)) fun q => match q with | .inl q => some q | .inr q => some q)
    (hs : ∀ (w : Int) (i : Nat) (a : A), (s.getD [])[i]? = some a → step (w, (i : Int)) = obind (te a w) fun c => bif decide (c < 0) then some (.inr (.inr (-1))) else some (.inl (c, wr ((i : Int) + 1))))
    (hf : ∀ w, step (w, (((s.getD []).length : Nat) : Int)) = some (.inr (.inl w))) : SzOK t (wtS wt) s := by
  intro k h0 h1
  rw [maxLen_eq] at hb
  have ws : wr (k - (((s.getD []).length : Nat) : Int)) = k - (((s.getD []).length : Nat) : Int) := wr_id (by omega) (by omega)
  rw [ht, ws]
  by_cases c : k - (((s.getD []).length : Nat) : Int) < 0
  · left
    rw [decide_eq_true c, cond_true]
  · rw [decide_eq_false c, cond_false]
    rcases szLoop wt (s.getD []) (by omega) step (fun w i a w0 w1 ha => by
      rw [hs w i a ha]
      rcases he a (List.mem_of_getElem? ha) w w0 w1 with h | ⟨h2, h⟩
      · left
        rw [h]
        rfl
      · right
        refine ⟨h2, ?_⟩
        rw [h, obind_sm, decide_eq_false (show ¬ w - ((wt a : Nat) : Int) < 0 by omega), cond_false]) hf (w0 := k - (((s.getD []).length : Nat) : Int)) (by omega) (by omega) with h | ⟨r, h, h2, h3⟩
    · left
      rw [h]
      rfl
    · right
      rw [h]
      have hw : ((wtS wt s : Nat) : Int) = (((s.getD []).length : Nat) : Int) + ((((s.getD []).map wt).sum : Nat) : Int) := by unfold wtS; omega
      refine ⟨by omega, ?_⟩
      rw [obind_sm]
      refine congrArg some ?_
      omega

theorem sz_str {n : Nat} {k : Int} (hn : n ≤ maxLen) (h1 : k ≤ 1048576) (h0 : 0 ≤ k) : wr (k - (n : Int)) = k - (n : Int) := by
  rw [maxLen_eq] at hn
  exact wr_id (by omega) (by omega)

theorem toBigramS_ok (a : Sl Bigram) (hl : (a.getD []).length ≤ 4294967296) : t_laws_toBigramS a = some (some ((a.getD []).map (fun x : Bigram => x))) := by
  have lp := mapLoop (⟨⟨#[]⟩, ⟨#[]⟩, 0⟩ : Bigram) (fun x : Bigram => x) (a.getD []) hl (s0_laws_toBigramS a) (fun M k x hM hx => by
    have hk := get_lt hx
    have c : (k : Int) < (((a.getD []).length : Nat) : Int) := by omega
    obtain ⟨y, hy⟩ : ∃ y, M[k]? = some y := ⟨M[k]'(by omega), List.getElem?_eq_getElem _⟩
    unfold s0_laws_toBigramS
    simp only [c, decide_true, cond_true, getI_nat hx, obind_sm, Option.getD_some, getI_nat hy, setS, Option.map_some, Int.toNat_natCast]) (fun w => by
    unfold s0_laws_toBigramS
    simp only [Int.lt_irrefl, decide_false, cond_false])
  unfold t_laws_toBigramS
  rw [make_len _ hl, obind_sm, lp, obind_sm]

theorem eqBigramS_ok {a b : Sl Bigram} (h : a.getD [] = b.getD []) (hl : (a.getD []).length ≤ 4294967296) : t_laws_eqBigramS a b = some true := by
  have lp := eqLoop (step := s0_laws_eqBigramS a b) (a.getD []).length hl (fun k hk => by
      have c : (k : Int) < ((a.getD []).length : Nat) := by omega
      obtain ⟨x, hx⟩ : ∃ x, (a.getD [])[k]? = some x := ⟨_, List.getElem?_eq_getElem hk⟩
      unfold s0_laws_eqBigramS
      simp only [c, decide_true, cond_true, getI_nat hx, ← h, obind_sm, Bool.not_true, cond_false])
    (by
      unfold s0_laws_eqBigramS
      simp only [Int.lt_irrefl, decide_false, cond_false])
  unfold t_laws_eqBigramS
  rw [lp, ← h]
  simp

theorem szBigram_ok {e : Bigram} (h : e.first.size ≤ maxLen) (h2 : e.second.size ≤ maxLen) : SzOK t_laws_szBigram (fun e => e.first.size + e.second.size) e := fun k h0 h1 => by
  unfold t_laws_szBigram
  rw [sz_str h h1 h0]
  by_cases c : k - (e.first.size : Int) < 0
  · left
    rw [decide_eq_true c, cond_true]
  · rw [decide_eq_false c, cond_false, sz_str h2 (by omega) (by omega)]
    by_cases c2 : k - (e.first.size : Int) - (e.second.size : Int) < 0
    · left
      rw [decide_eq_true c2, cond_true]
    · right
      rw [decide_eq_false c2, cond_false]
      exact ⟨by show ((e.first.size + e.second.size : Nat) : Int) ≤ k; omega, congrArg some (by show k - (e.first.size : Int) - (e.second.size : Int) = k - ((e.first.size + e.second.size : Nat) : Int); omega)⟩

theorem szBigramS_ok {s : Sl Bigram} (hb : (s.getD []).length ≤ maxLen) (he : ∀ a ∈ s.getD [], a.first.size ≤ maxLen ∧ a.second.size ≤ maxLen) : SzOK t_laws_szBigramS (wtS (fun e => e.first.size + e.second.size)) s :=
  szS_ok (te := t_laws_szBigram) hb (fun a ha => szBigram_ok (he a ha).1 (he a ha).2) (step := s0_laws_szBigramS s) (fun k => rfl) (fun w i a ha => by
    have hk := get_lt ha
    have c : (i : Int) < (((s.getD []).length : Nat) : Int) := by omega
    unfold s0_laws_szBigramS
    simp only [c, decide_true, cond_true, getI_nat ha, obind_sm]) (fun w => by
    unfold s0_laws_szBigramS
    simp only [Int.lt_irrefl, decide_false, cond_false])

theorem sz_wrap {A B : Type} {t : B → Int → Option Int} {wt : B → Nat} {f : A → B} {a : A} (h : SzOK t wt (f a)) {t' : A → Int → Option Int} (ht : ∀ k, t' a k = obind (t (f a) k) fun c => bif decide (c < 0) then some (-1) else some c) : SzOK t' (fun a => wt (f a)) a := fun k h0 h1 => by
  rw [ht]
  rcases h k h0 h1 with e | ⟨h2, e⟩
  · left
    rw [e]
    rfl
  · right
    rw [e, obind_sm, decide_eq_false (show ¬ k - ((wt (f a) : Nat) : Int) < 0 by omega)]
    exact ⟨h2, rfl⟩

def wtMod (l : Model) : Nat := wtS (fun e : Bigram => e.first.size + e.second.size) l.bigrams

theorem szModel_ok {l : Model} (hb : (l.bigrams.getD []).length ≤ maxLen) (he : ∀ a ∈ l.bigrams.getD [], a.first.size ≤ maxLen ∧ a.second.size ≤ maxLen) : SzOK t_laws_szModel wtMod l := sz_wrap (f := Model.bigrams) (szBigramS_ok hb he) fun k => rfl

theorem toModel_ok (m : Model) (h : (m.bigrams.getD []).length ≤ 4294967296) : t_laws_toModel m = some ⟨m.default, some (m.bigrams.getD [])⟩ := by
  unfold t_laws_toModel
  rw [toBigramS_ok _ h, obind_sm, List.map_id']

theorem eqModel_ok (m : Model) (h : (m.bigrams.getD []).length ≤ 4294967296) : t_laws_eqModel m m = some true := by
  unfold t_laws_eqModel
  rw [eqBigramS_ok rfl h]
  simp

/-! ### Valid lattices, lexicons and models -/
theorem bytesO_some {s : ByteArray} (h : s.size ≤ 4294967296) : bytesO s = some (bl s) := by
  unfold bytesO
  rw [if_pos h]

theorem getB_bl {s : ByteArray} {k : Nat} {b : UInt8} (h : (bl s)[k]? = some b) : getB s (k : Int) = some b := getI_nat h

def fLow (_ : Nat) (b : UInt8) : Option Bool := bif !isLow b then some false else none

theorem fLow_all : ∀ (l : List UInt8) (k : Nat), firstL fLow l k = bif l.all isLow then none else some false
  | [], _ => rfl
  | b :: l, k => by
    unfold firstL fLow
    rw [List.all_cons]
    cases e : isLow b with
    | false => rfl
    | true =>
      have := fLow_all l (k + 1)
      unfold fLow at this
      simpa using this

theorem implWord_ok {s : ByteArray} (h : s.size ≤ 4294967296) : t_impl_IsWord s = some (isWord s) := by
  have hl : (bl s).length ≤ 4294967296 := by rw [bl_len]; exact h
  have lp := loopT_first (step := s0_impl_IsWord (bl s)) (bl s) fLow (.inl ()) .inr
    (fun k a ha => by
      have hk := get_lt ha
      have c : (k : Int) < (((bl s).length : Nat) : Int) := by omega
      unfold s0_impl_IsWord fLow
      simp only [Option.getD_some, c, decide_true, cond_true, getI_nat ha, obind_sm, wr_succ hk hl]
      cases isLow a <;> rfl)
    (by
      unfold s0_impl_IsWord
      simp only [Option.getD_some, Int.lt_irrefl, decide_false, cond_false])
  rw [fLow_all] at lp
  unfold t_impl_IsWord isWord
  rw [bytesO_some h, obind_sm, lp]
  have d1 : decide (1 ≤ (s.size : Int)) = decide (1 ≤ s.size) := decide_eq_decide.2 (by omega)
  have d2 : decide ((s.size : Int) ≤ 10) = decide (s.size ≤ 10) := decide_eq_decide.2 (by omega)
  rw [d1, d2]
  cases (bl s).all isLow with
  | false => rfl
  | true => cases decide (1 ≤ s.size) <;> rfl

theorem specWord_ok {s : ByteArray} (h : s.size ≤ 4294967296) : t_spec_IsWord s = some (isWord s) := by
  have hl : (bl s).length ≤ 4294967296 := by rw [bl_len]; exact h
  have lp := loopT_first (step := s0_spec_IsWord s) (bl s) fLow (.inl ()) .inr
    (fun k a ha => by
      have hk := get_lt ha
      have c : (k : Int) < (s.size : Int) := by rw [bl_len] at hk; omega
      unfold s0_spec_IsWord fLow
      simp only [c, decide_true, cond_true, getB_bl ha, obind_sm, wr_succ hk hl]
      cases isLow a <;> rfl)
    (by
      unfold s0_spec_IsWord
      rw [bl_len]
      simp only [Int.lt_irrefl, decide_false, cond_false])
  rw [fLow_all] at lp
  unfold t_spec_IsWord isWord
  rw [lp]
  have d1 : within (s.size : Int) 1 10 = (decide (1 ≤ s.size) && decide (s.size ≤ 10)) := by
    unfold within
    congr 1 <;> exact decide_eq_decide.2 (by omega)
  rw [d1]
  cases (bl s).all isLow with
  | false => rfl
  | true => rfl

/-- A list is checked from the front, each element against the one ahead of it. -/
def fAdj {A : Type} (ok : A → Bool) (lt : A → A → Bool) (l : List A) (k : Nat) (a : A) : Option Bool :=
  bif ok a && (decide (k = 0) || (match l[k - 1]? with | some b => lt b a | none => true)) then none else some false

/-- .. what the check says: all elements are well, and each is behind the one ahead of it. -/
def adj {A : Type} (ok : A → Bool) (lt : A → A → Bool) (l : List A) : Bool := match firstL (fAdj ok lt l) l 0 with
  | none => true
  | some r => r

theorem firstL_false {A : Type} {f : Nat → A → Option Bool} (hf : ∀ k a r, f k a = some r → r = false) {l : List A} {k : Nat} {r : Bool} (h : firstL f l k = some r) : r = false := by
  obtain ⟨i, a, e⟩ := firstL_so h
  exact hf _ _ _ e

theorem fAdj_false {A : Type} {ok : A → Bool} {lt : A → A → Bool} {l : List A} {k : Nat} {a : A} {r : Bool} (h : fAdj ok lt l k a = some r) : r = false := by
  unfold fAdj at h
  split at h <;> (cases h' : (ok a && _) <;> rw [h'] at h <;> cases h; rfl)

theorem adjLoop {A : Type} (ok : A → Bool) (lt : A → A → Bool) (l : List A) (hl : l.length ≤ 4294967296) {step : Int → Option (Sum Int (Sum Unit Bool))}
    (next : ∀ (k : Nat) a, l[k]? = some a → (∀ b, 0 < k → l[k - 1]? = some b → True) → step (k : Int) = some (bif ok a && (decide (k = 0) || (match l[k - 1]? with | some b => lt b a | none => true)) then .inl (wr ((k : Int) + 1)) else .inr (.inr false)))
    (fin : step ((l.length : Nat) : Int) = some (.inr (.inl ()))) : loopT step 0 = some (bif adj ok lt l then .inl () else .inr false) := by
  have lp := loopT_first (step := step) l (fAdj ok lt l) (.inl ()) .inr
    (fun k a ha => by
      have hk := get_lt ha
      have e := next k a ha fun _ _ _ => trivial
      rw [wr_succ hk hl] at e
      rw [e]
      unfold fAdj
      cases (ok a && (decide (k = 0) || (match l[k - 1]? with | some b => lt b a | none => true))) <;> rfl) fin
  rw [lp]
  unfold adj
  cases e : firstL (fAdj ok lt l) l 0 with
  | none => rfl
  | some r =>
    have := firstL_false (fun k a r => fAdj_false) e
    subst this
    rfl

theorem adj_all {A : Type} {ok : A → Bool} {lt : A → A → Bool} {l : List A} (h : adj ok lt l = true) : (∀ a ∈ l, ok a = true) ∧ ∀ (k : Nat) a b, l[k]? = some a → l[k + 1]? = some b → lt a b = true := by
  have hn : firstL (fAdj ok lt l) l 0 = none := by
    unfold adj at h
    cases e : firstL (fAdj ok lt l) l 0 with
    | none => rfl
    | some r =>
      rw [e] at h
      have := firstL_false (fun k a r => fAdj_false) e
      subst this
      cases h
  have key := firstL_no hn
  have k2 : ∀ (i : Nat) a, l[i]? = some a → (ok a && (decide (i = 0) || (match l[i - 1]? with | some b => lt b a | none => true))) = true := fun i a ha => by
    have := key i a ha
    rw [Nat.zero_add] at this
    unfold fAdj at this
    cases e : (ok a && (decide (i = 0) || (match l[i - 1]? with | some b => lt b a | none => true))) with
    | true => rfl
    | false => rw [e] at this; cases this
  refine ⟨fun a ha => ?_, fun k a b ha hb => ?_⟩
  · obtain ⟨i, hi⟩ := List.mem_iff_getElem?.1 ha
    have := k2 i a hi
    rw [Bool.and_eq_true] at this
    exact this.1
  · have := k2 (k + 1) b hb
    rw [Nat.add_sub_cancel, ha] at this
    simp at this
    exact this.2

/-! ### Models and lattices -/
theorem pred_getA {A : Type} {l : List A} {k : Nat} (h0 : k ≠ 0) (hk : k < l.length) (hl : l.length ≤ 4294967296) : ∃ b, l[k - 1]? = some b ∧ getI l (wr ((k : Int) - 1)) = some b := by
  obtain ⟨b, hb⟩ : ∃ b, l[k - 1]? = some b := ⟨_, List.getElem?_eq_getElem (by omega)⟩
  refine ⟨b, hb, ?_⟩
  have : wr ((k : Int) - 1) = ((k - 1 : Nat) : Int) := by rw [wr_id (by omega) (by omega)]; omega
  rw [this]
  exact getI_nat hb

theorem implBig_ok {b : Bigram} (h1 : b.first.size ≤ 4294967296) (h2 : b.second.size ≤ 4294967296) : t_impl_validBigram b = some (validBigram b) := by
  unfold t_impl_validBigram validBigram isFirst
  rw [implWord_ok h1, implWord_ok h2]
  cases isWord b.second <;> cases decide (b.first = (⟨#[]⟩ : ByteArray)) <;> cases isWord b.first <;> rfl

theorem specFirst_ok {s : ByteArray} (h1 : s.size ≤ 4294967296) : t_spec_l18First s = some (isFirst s) := by
  unfold t_spec_l18First isFirst
  rw [specWord_ok h1]
  cases decide (s = (⟨#[]⟩ : ByteArray)) <;> rfl

theorem specBig_ok {b : Bigram} (h1 : b.first.size ≤ 4294967296) (h2 : b.second.size ≤ 4294967296) : t_spec_l18Bigram b = some (validBigram b) := by
  unfold t_spec_l18Bigram validBigram
  rw [specFirst_ok h1, specWord_ok h2]
  cases isWord b.second <;> cases isFirst b.first <;> rfl

theorem specBefore_ok (a b : Bigram) : t_spec_l18Before a b = some (before a b) := by
  unfold t_spec_l18Before before
  cases ltS a.first b.first <;> cases decide (a.first = b.first) <;> rfl

def modB (m : Model) : Bool := adj validBigram before (m.bigrams.getD []) && (within m.default 0 1000000 && decide ((m.bigrams.getD []).length ≤ 60))

def smallBigs (m : Model) : Prop := (m.bigrams.getD []).length ≤ 4294967296 ∧ ∀ b ∈ m.bigrams.getD [], b.first.size ≤ 4294967296 ∧ b.second.size ≤ 4294967296

theorem implMod_ok {m : Model} (hs : smallBigs m) : t_impl_ValidModel m = some (modB m) := by
  obtain ⟨hl, hw⟩ := hs
  have lp := adjLoop validBigram before (m.bigrams.getD []) hl (step := s0_impl_ValidModel m) (fun k a ha _ => by
      have hk := get_lt ha
      have c : (k : Int) < (((m.bigrams.getD []).length : Nat) : Int) := by omega
      have w := implBig_ok (hw a (List.mem_of_getElem? ha)).1 (hw a (List.mem_of_getElem? ha)).2
      unfold s0_impl_ValidModel
      simp only [c, decide_true, cond_true, getI_nat ha, obind_sm, w]
      cases validBigram a with
      | false => rfl
      | true =>
        by_cases k0 : k = 0
        · subst k0
          rfl
        · obtain ⟨b, hb, gb⟩ := pred_getA k0 hk hl
          have d : decide ((0 : Int) < (k : Int)) = true := decide_eq_true (by omega)
          have d2 : decide (k = 0) = false := decide_eq_false k0
          simp only [Bool.not_true, cond_false, obind_sm, d, d2, Bool.not_false, Bool.and_self, cond_true, gb, hb, Bool.true_and, Bool.false_or, cmpB_before]
          cases before b a <;> rfl)
    (by
      unfold s0_impl_ValidModel
      simp only [Int.lt_irrefl, decide_false, cond_false])
  unfold t_impl_ValidModel modB
  rw [lp]
  have d : decide ((((m.bigrams.getD []).length : Nat) : Int) ≤ 60) = decide ((m.bigrams.getD []).length ≤ 60) := decide_eq_decide.2 (by omega)
  rw [d]
  cases adj validBigram before (m.bigrams.getD []) with
  | false => rfl
  | true =>
    simp only [cond_true, obind_sm, Bool.true_and]
    cases within m.default 0 1000000 <;> rfl

theorem specMod_ok {m : Model} (hs : smallBigs m) : t_spec_l18Ok m = some (modB m) := by
  obtain ⟨hl, hw⟩ := hs
  have lp := adjLoop validBigram before (m.bigrams.getD []) hl (step := s0_spec_l18Ok m) (fun k a ha _ => by
      have hk := get_lt ha
      have c : (k : Int) < (((m.bigrams.getD []).length : Nat) : Int) := by omega
      have w := specBig_ok (hw a (List.mem_of_getElem? ha)).1 (hw a (List.mem_of_getElem? ha)).2
      unfold s0_spec_l18Ok
      simp only [c, decide_true, cond_true, getI_nat ha, obind_sm, w]
      cases validBigram a with
      | false => rfl
      | true =>
        by_cases k0 : k = 0
        · subst k0
          rfl
        · obtain ⟨b, hb, gb⟩ := pred_getA k0 hk hl
          have d : decide ((0 : Int) < (k : Int)) = true := decide_eq_true (by omega)
          have d2 : decide (k = 0) = false := decide_eq_false k0
          simp only [Bool.not_true, cond_false, obind_sm, d, d2, Bool.not_false, Bool.and_self, cond_true, gb, hb, Bool.true_and, Bool.false_or, specBefore_ok]
          cases before b a <;> rfl)
    (by
      unfold s0_spec_l18Ok
      simp only [Int.lt_irrefl, decide_false, cond_false])
  unfold t_spec_l18Ok modB
  rw [lp]
  have d : decide ((((m.bigrams.getD []).length : Nat) : Int) ≤ 60) = decide ((m.bigrams.getD []).length ≤ 60) := decide_eq_decide.2 (by omega)
  rw [d]
  cases adj validBigram before (m.bigrams.getD []) with
  | false => rfl
  | true =>
    simp only [cond_true, obind_sm, Bool.true_and]
    cases within m.default 0 1000000 <;> rfl

theorem mod_srt {m : Model} (h : modB m = true) : srtB (m.bigrams.getD []) = true := by
  unfold modB at h
  rw [Bool.and_eq_true] at h
  have k := (adj_all h.1).2
  unfold srtB
  rw [List.all_eq_true]
  intro i hi
  rw [List.mem_range] at hi
  by_cases h0 : i = 0
  · rw [decide_eq_true h0]
    rfl
  · obtain ⟨a, ha⟩ : ∃ a, (m.bigrams.getD [])[i - 1]? = some a := ⟨_, List.getElem?_eq_getElem (by omega)⟩
    obtain ⟨b, hb⟩ : ∃ b, (m.bigrams.getD [])[i]? = some b := ⟨_, List.getElem?_eq_getElem hi⟩
    have e : i - 1 + 1 = i := by omega
    have := k (i - 1) a b ha (by rw [e]; exact hb)
    unfold beforeAt
    rw [ha, hb]
    show (decide (i = 0) || before a b) = true
    rw [this, Bool.or_true]
/-! Lattices -/

/-! ### Searches: binary and from the front; costs of pairs and of words -/
theorem mid_ok {i j : Nat} (h : i + j ≤ 9000000000000000000) : wr (Int.fdiv (IntKind.u64.wrap (wr ((i : Int) + (j : Int)))) (2 ^ 1)) = (((i + j) / 2 : Nat) : Int) := by
  have e1 : wr ((i : Int) + (j : Int)) = ((i + j : Nat) : Int) := by
    rw [wr_id (by omega) (by omega)]
    omega
  have e2 : IntKind.u64.wrap ((i + j : Nat) : Int) = ((i + j : Nat) : Int) := by
    simp only [IntKind.wrap, IntKind.bits, IntKind.signed]
    first | omega | (simp; omega)
  have e3 : Int.fdiv ((i + j : Nat) : Int) (2 ^ 1) = (((i + j) / 2 : Nat) : Int) := by
    rw [Int.fdiv_eq_ediv_of_nonneg _ (by decide)]
    omega
  rw [e1, e2, e3, wr_id (by omega) (by omega)]

theorem bsLoop {step : (Int × Int) → Option (Sum (Int × Int) Int)} {n p : Nat} (hn : n ≤ 4294967296)
    (next : ∀ i j : Nat, i < j → j ≤ n → step ((i : Int), (j : Int)) = some (bif decide ((i + j) / 2 < p) then .inl (wr ((((i + j) / 2 : Nat) : Int) + 1), (j : Int)) else .inl ((i : Int), (((i + j) / 2 : Nat) : Int))))
    (fin : ∀ i : Nat, step ((i : Int), (i : Int)) = some (.inr (i : Int))) : ∀ d i j : Nat, j - i ≤ d → i ≤ p → p ≤ j → j ≤ n → loopT step ((i : Int), (j : Int)) = some (p : Int)
  | 0, i, j, hd, hi, hj, _ => by
    have e1 : j = p := by omega
    have e2 : i = p := by omega
    subst e1
    subst e2
    exact loopT_end (fin _)
  | d + 1, i, j, hd, hi, hj, hJ => by
    by_cases hlt : i < j
    · have e := next i j hlt hJ
      by_cases hm : (i + j) / 2 < p
      · rw [decide_eq_true hm, cond_true, wr_succ (n := n) (by omega) hn] at e
        rw [loopT_next e]
        exact bsLoop hn next fin d _ _ (by omega) (by omega) hj hJ
      · rw [decide_eq_false hm, cond_false] at e
        rw [loopT_next e]
        exact bsLoop hn next fin d _ _ (by omega) hi (by omega) (by omega)
    · have e1 : j = p := by omega
      have e2 : i = p := by omega
      subst e1
      subst e2
      exact loopT_end (fin _)

/-! ### The cost of a text in a lattice: the least cost of a path -/
inductive Wy (E : List Edg) (lab : Nat → ByteArray) : Nat → Nat → Int → Prop
  | start : Wy E lab 0 0 0
  | step {k u v : Nat} {c : Int} {i : Nat} {e : Edg} : Wy E lab k u c → E[i]? = some e → e.frm = (u : Int) → e.upto = (v : Int) → e.label = lab k → Wy E lab (k + 1) v (c + e.cost)

theorem set_upd {L : List Int} {v : Nat} {x y : Int} (h : L[v]? = some x) (i : Nat) : (L.set v y)[i]? = if i = v then some y else L[i]? := by
  by_cases e : i = v
  · subst e
    rw [if_pos rfl, List.getElem?_set_self (get_lt h)]
  · rw [if_neg e, List.getElem?_set_ne (fun k => e k.symm)]

/-- .. what the first j edges tell of the next row. -/
def Nxt (E : List Edg) (lab : Nat → ByteArray) (k j : Nat) (v : Nat) (c : Int) : Prop := ∃ i e u c', i < j ∧ E[i]? = some e ∧ e.frm = ((u : Nat) : Int) ∧ e.upto = (v : Int) ∧ e.label = lab k ∧ Wy E lab k u c' ∧ c = c' + e.cost

theorem Nxt.all {E : List Edg} {lab : Nat → ByteArray} {k v : Nat} {c : Int} : Nxt E lab k E.length v c ↔ Wy E lab (k + 1) v c := by
  constructor
  · rintro ⟨i, e, u, c', _, he, hf, hu, hl, hw, rfl⟩
    exact .step hw he hf hu hl
  · intro h
    cases h with
    | step hw he hf hu hl => exact ⟨_, _, _, _, get_lt he, he, hf, hu, hl, hw, rfl⟩

/-- A cell's cost is at most c. -/
def Cap (n : Nat) (L : List Int) (v k : Nat) (c : Int) : Prop := ∃ x, L[v * (n + 1) + k]? = some x ∧ 0 ≤ x ∧ x ≤ c

theorem Cap.mono {n : Nat} {L : List Int} {v k m : Nat} {c x y : Int} (h : Cap n L v k c) (hx : L[m]? = some x) (hy : x < 0 ∨ y < x) (h0 : 0 ≤ y) : Cap n (L.set m y) v k c := by
  obtain ⟨z, h1, h2, h3⟩ := h
  unfold Cap
  rw [set_upd hx]
  by_cases e : v * (n + 1) + k = m
  · rw [if_pos e]
    rw [e, hx] at h1
    cases h1
    exact ⟨y, rfl, h0, by omega⟩
  · rw [if_neg e]
    exact ⟨z, h1, h2, h3⟩

theorem mem_len {A : Type} {wt : A → Nat} (s : Sl A) : (s.getD []).length ≤ wtS wt s := by
  unfold wtS
  omega

/-! ### Sets of symbols as numbers; sums -/
theorem wr_shift (x q : Int) : wr (x + 18446744073709551616 * q) = wr x := by
  simp only [wr, IntKind.wrap, IntKind.bits, IntKind.signed]
  first | omega | (simp; done)

theorem wr_mod (x : Int) : ∃ q, wr x = x + 18446744073709551616 * q := by
  have h : ∃ q, wr x = x - 18446744073709551616 * q := by
    simp only [wr, IntKind.wrap, IntKind.bits, IntKind.signed]
    by_cases h : x % 18446744073709551616 ≥ 9223372036854775808
    · exact ⟨x / 18446744073709551616 + 1, by simp [h]; omega⟩
    · exact ⟨x / 18446744073709551616, by simp [h]; omega⟩
  obtain ⟨q, hq⟩ := h
  exact ⟨-q, by rw [hq]; omega⟩

theorem wr_add_l (x y : Int) : wr (wr x + y) = wr (x + y) := by
  obtain ⟨q, h⟩ := wr_mod x
  rw [h, show x + 18446744073709551616 * q + y = x + y + 18446744073709551616 * q by omega, wr_shift]

def upd (base : Nat → Int) (S : Nat) (x : Int) (v : Nat) : Int := if v = S then x else base v

theorem upd_self (base : Nat → Int) (S : Nat) (x : Int) : upd base S x S = x := if_pos rfl

theorem upd_ne {base : Nat → Int} {S v : Nat} (x : Int) (h : v ≠ S) : upd base S x v = base v := if_neg h

structure PI (l : Sl Symbol) (n : Nat) (bx : Nat → Box) (c : Nat → Int) (p : Parser) : Prop where
  list : p.list = l
  boxes : ∀ v, v < n → (p.boxes.getD [])[v]? = some (bx v)
  best : (p.best.getD []).length = n
  clen : (p.count.getD []).length = n
  count : ∀ v, v < n → (p.count.getD [])[v]? = some (c v)

structure CI (l : Sl Symbol) (n : Nat) (bx : Nat → Box) (c : Nat → Int) (p : Chart21) : Prop where
  list : p.list = l
  len : (p.cells.getD []).length = n
  cells : ∀ v, v < n → ∃ x, (p.cells.getD [])[v]? = some x ∧ x.box = bx v ∧ x.ways = c v

theorem setS_look {A : Type} {s : Sl A} {v : Nat} {x y : A} (h : (s.getD [])[v]? = some x) (i : Nat) : ((setS s (v : Int) y).getD [])[i]? = if i = v then some y else (s.getD [])[i]? := by
  cases s with
  | none => simp at h
  | some l =>
    show (l.set ((v : Int).toNat) y)[i]? = if i = v then some y else l[i]?
    rw [Int.toNat_natCast]
    have h' : l[v]? = some x := h
    by_cases e : i = v
    · subst e
      rw [if_pos rfl, List.getElem?_set_self (get_lt h')]
    · rw [if_neg e, List.getElem?_set_ne (fun k => e k.symm)]

theorem PI.add {l : Sl Symbol} {n : Nat} {bx : Nat → Box} {base : Nat → Int} {S : Nat} {X Y : Int} {p : Parser} (h : PI l n bx (upd base S (wr X)) p) (hS : S < n) (q : Sl Choice) (hq : (q.getD []).length = n) : PI l n bx (upd base S (wr (X + Y))) ⟨p.list, p.boxes, q, setS p.count (S : Int) (wr (wr X + Y))⟩ := by
  have hs := h.count S hS
  refine ⟨h.list, h.boxes, hq, by show ((setS p.count (S : Int) _).getD []).length = n; rw [setS_len]; exact h.clen, fun v hv => ?_⟩
  show ((setS p.count (S : Int) _).getD [])[v]? = _
  rw [setS_look hs]
  by_cases e : v = S
  · subst e
    rw [if_pos rfl, upd_self, wr_add_l]
  · rw [if_neg e, upd_ne _ e, h.count v hv, upd_ne _ e]

/-! ### One way, the reference's side; all divisions of a set, on both sides -/
theorem CI.add {l : Sl Symbol} {n : Nat} {bx : Nat → Box} {base : Nat → Int} {S : Nat} {X Y Z : Int} {p : Chart21} (h : CI l n bx (upd base S (wr X)) p) (hS : S < n) (y : Cell21) (hb : y.box = bx S) (hw : y.ways = wr (wr X + Y)) (hZ : wr (X + Y) = wr (X + Z)) : CI l n bx (upd base S (wr (X + Z))) ⟨p.list, setS p.cells (S : Int) y⟩ := by
  obtain ⟨x, hx, _⟩ := h.cells S hS
  refine ⟨h.list, by show ((setS p.cells (S : Int) _).getD []).length = n; rw [setS_len]; exact h.len, fun v hv => ?_⟩
  show ∃ x, ((setS p.cells (S : Int) _).getD [])[v]? = some x ∧ _
  rw [setS_look hx]
  by_cases e : v = S
  · subst e
    rw [if_pos rfl]
    exact ⟨y, rfl, hb, by rw [upd_self, hw, wr_add_l, hZ]⟩
  · rw [if_neg e]
    obtain ⟨z, h1, h2, h3⟩ := h.cells v hv
    exact ⟨z, h1, h2, by rw [h3, upd_ne _ e, upd_ne _ e]⟩

/-! ### The boxes of sets; one set whole -/
def shrQ (S i : Nat) : Int := Int.fdiv (S : Int) (2 ^ (min (i : Int).toNat 64))

def outQ (S i : Nat) : Bool := decide (andI (shrQ S i) 1 = 0)

/-! ### The best way (ParseSymbols) -/
structure Way where
  kind : Int
  sign : Int
  a : Nat
  b : Nat
  cost : Int
  ways : Int
  deriving DecidableEq

abbrev posLt (x y : Way) : Prop := x.kind < y.kind ∨ (x.kind = y.kind ∧ (x.sign < y.sign ∨ (x.sign = y.sign ∧ x.a < y.a)))

abbrev lexLt (x y : Way) : Prop := x.cost < y.cost ∨ (x.cost = y.cost ∧ posLt x y)

def stepI (o : Option Way) (t : Way) : Option Way := if t.ways = 0 then o else match o with
  | none => some t
  | some x => if lexLt t x then some t else some x

def stepS (o : Option Way) (t : Way) : Option Way := if t.ways = 0 then o else match o with
  | none => some t
  | some x => if t.cost < x.cost then some t else some x

def chOf (t : Way) : Choice := ⟨t.kind, t.sign, (t.a : Int), (t.b : Int), t.cost⟩

structure PB (l : Sl Symbol) (n : Nat) (bx : Nat → Box) (base : Nat → Int) (bc : Nat → Choice) (S : Nat) (X : Int) (o : Option Way) (p : Parser) : Prop where
  pi : PI l n bx (upd base S (wr X)) p
  bst : ∀ v, v < n → v ≠ S → (p.best.getD [])[v]? = some (bc v)
  own : ∀ t, o = some t → (p.best.getD [])[S]? = some (chOf t)
  zero : o = none ↔ X = 0
  pos : 0 ≤ X

def chC (x : Cell21) : Choice := ⟨x.kind, x.sign, x.first, x.rest, x.cost⟩

structure CB (l : Sl Symbol) (n : Nat) (bx : Nat → Box) (base : Nat → Int) (cc : Nat → Choice) (S : Nat) (X : Int) (o : Option Way) (p : Chart21) : Prop where
  ci : CI l n bx (upd base S (wr X)) p
  bst : ∀ v, v < n → v ≠ S → ∃ x, (p.cells.getD [])[v]? = some x ∧ chC x = cc v
  own : ∀ t, o = some t → ∃ x, (p.cells.getD [])[S]? = some x ∧ chC x = chOf t
  zero : o = none ↔ X = 0
  pos : 0 ≤ X

theorem PB.take {l : Sl Symbol} {n : Nat} {bx : Nat → Box} {base : Nat → Int} {bc : Nat → Choice} {S : Nat} {X : Int} {o : Option Way} {p : Parser} (h : PB l n bx base bc S X o p) (hS : S < n) {t : Way} (hp : 0 < t.ways) (hs : stepI o t = some t) : PB l n bx base bc S (X + t.ways) (stepI o t) ⟨p.list, p.boxes, setS p.best (S : Int) (chOf t), setS p.count (S : Int) (wr (wr X + t.ways))⟩ := by
  obtain ⟨y, hy⟩ : ∃ y, (p.best.getD [])[S]? = some y := ⟨_, List.getElem?_eq_getElem (by have := h.pi.best; omega)⟩
  have pos := h.pos
  refine ⟨h.pi.add hS _ (by rw [setS_len]; exact h.pi.best), fun v hv hn => ?_, fun u hu => ?_, ?_, by omega⟩
  · show ((setS p.best (S : Int) _).getD [])[v]? = _
    rw [setS_look hy, if_neg hn]
    exact h.bst v hv hn
  · show ((setS p.best (S : Int) _).getD [])[S]? = _
    rw [hs] at hu
    cases hu
    rw [setS_look hy, if_pos rfl]
  · rw [hs]
    exact ⟨fun e => (by cases e), fun e => by omega⟩

theorem CB.put {l : Sl Symbol} {n : Nat} {bx : Nat → Box} {base : Nat → Int} {cc : Nat → Choice} {S : Nat} {X : Int} {o : Option Way} {p : Chart21} (h : CB l n bx base cc S X o p) (hS : S < n) {t u : Way} (hp : 0 < t.ways) (hs : stepS o t = some u) {w y : Cell21} (hw : (p.cells.getD [])[S]? = some w) (yb : y.box = w.box) (yw : y.ways = wr (w.ways + t.ways)) (yc : chC y = chOf u) :
    CB l n bx base cc S (X + t.ways) (stepS o t) ⟨p.list, setS p.cells (S : Int) y⟩ := by
  have pos := h.pos
  obtain ⟨w', hw', wb, ww⟩ := h.ci.cells S hS
  rw [hw] at hw'
  cases hw'
  rw [upd_self] at ww
  refine ⟨h.ci.add (Y := t.ways) (Z := t.ways) hS y (by rw [yb, wb]) (by rw [yw, ww]) rfl, fun v hv hn => ?_, fun u' hu => ?_, ?_, by omega⟩
  · show ∃ x, ((setS p.cells (S : Int) _).getD [])[v]? = some x ∧ _
    rw [setS_look hw, if_neg hn]
    exact h.bst v hv hn
  · rw [hs] at hu
    cases hu
    show ∃ x, ((setS p.cells (S : Int) _).getD [])[S]? = some x ∧ _
    rw [setS_look hw, if_pos rfl]
    exact ⟨y, rfl, yc⟩
  · rw [hs]
    exact ⟨fun e => (by cases e), fun e => by omega⟩

/-! ### One set whole, with its best way, on both sides -/
def lastIx (S : Nat) : Nat → Nat
  | 0 => 0
  | i + 1 => bif outQ S i then lastIx S i else i

def Lnk (N : Nat) (base : Nat → Int) (v : Nat) (x y : Choice) : Prop :=
  (v &&& (v - 1) = 0 ∧ y = ⟨0, (lastIx v N : Int), 0, 0, 0⟩) ∨ (v &&& (v - 1) ≠ 0 ∧ ∃ t : Way, x = chOf t ∧ y = chOf t ∧ t.kind ≠ 0 ∧ 0 < t.a ∧ t.a < v ∧ t.b < v ∧ base t.a ≠ 0 ∧ (t.b = 0 ∨ base t.b ≠ 0) ∧ t.a + t.b ≤ v)

theorem Lnk.mono {N v S : Nat} {base : Nat → Int} {x y : Choice} {u : Int} (h : Lnk N base v x y) (hv : v ≤ S) (hu : base S = 0) : Lnk N (upd base S u) v x y := by
  rcases h with h | ⟨h1, t, h2, h3, h4, h5, h6, h7, h8, h9, h10⟩
  · exact .inl h
  · refine .inr ⟨h1, t, h2, h3, h4, h5, h6, h7, ?_, ?_, h10⟩
    · rw [upd_ne _ (by omega)]
      exact h8
    · rw [upd_ne _ (by omega)]
      exact h9

theorem before_irr (a : Bigram) : before a a = false := sameB_not (by simp [sameB])

/-- Two lists in order with the same members. -/
theorem sorted_ext : ∀ {l1 l2 : List Bigram}, l1.Pairwise (fun a b => before a b = true) → l2.Pairwise (fun a b => before a b = true) → (∀ b, b ∈ l1 ↔ b ∈ l2) → l1 = l2
  | [], [], _, _, _ => rfl
  | [], b :: s, _, _, hm => absurd ((hm b).2 (List.mem_cons_self)) (by simp)
  | a :: r, [], _, _, hm => absurd ((hm a).1 (List.mem_cons_self)) (by simp)
  | a :: r, b :: s, h1, h2, hm => by
    rw [List.pairwise_cons] at h1 h2
    have irr : ∀ c, ¬ before c c = true := fun c h => by rw [before_irr] at h; cases h
    have e : a = b := by
      rcases List.mem_cons.1 ((hm a).1 List.mem_cons_self) with h | h
      · exact h
      · rcases List.mem_cons.1 ((hm b).2 List.mem_cons_self) with k | k
        · exact k.symm
        · exact absurd (before_trans (h1.1 b k) (h2.1 a h)) (irr a)
    subst e
    rw [sorted_ext h1.2 h2.2 fun c => ⟨fun hc => by
      rcases List.mem_cons.1 ((hm c).1 (List.mem_cons_of_mem _ hc)) with h | h
      · subst h; exact absurd (h1.1 _ hc) (irr _)
      · exact h, fun hc => by
      rcases List.mem_cons.1 ((hm c).2 (List.mem_cons_of_mem _ hc)) with h | h
      · subst h; exact absurd (h2.1 _ hc) (irr _)
      · exact h⟩]

/-! ### A pair is put into a list in order -/
def putF (b : Bigram) : List Bigram → List Bigram → Bool → List Bigram × Bool
  | [], acc, d => (acc, d)
  | a :: r, acc, d => putF b r ((bif !d && !before a b then acc ++ [b] else acc) ++ (bif sameB a b then [] else [a])) (d || !before a b)

def putB (b : Bigram) (l : List Bigram) : List Bigram := (l.filter fun a => before a b) ++ b :: l.filter fun a => before b a

theorem before_tri (a b : Bigram) (h : before a b = false) (h2 : sameB a b = false) : before b a = true := by
  rcases ltS_tri a.first b.first with k | k | k
  · rw [(before_iff a b).2 (.inl k)] at h; cases h
  · rcases ltS_tri a.second b.second with m | m | m
    · rw [(before_iff a b).2 (.inr ⟨k, m⟩)] at h; cases h
    · unfold sameB at h2
      rw [decide_eq_true k, decide_eq_true m] at h2
      cases h2
    · exact (before_iff b a).2 (.inr ⟨k.symm, m⟩)
  · exact (before_iff b a).2 (.inl k)

theorem before_asym {a b : Bigram} (h : before a b = true) : before b a = false := by
  cases e : before b a with
  | false => rfl
  | true =>
    have := before_trans h e
    rw [before_irr] at this
    cases this

theorem putF_done (b : Bigram) : ∀ (l acc : List Bigram), (∀ a ∈ l, before a b = false) → putF b l acc true = (acc ++ l.filter (fun a => before b a), true)
  | [], acc, _ => by simp [putF]
  | a :: r, acc, h => by
    have h0 := h a List.mem_cons_self
    unfold putF
    rw [h0, Bool.not_true, Bool.false_and, cond_false, Bool.true_or, putF_done b r _ fun c hc => h c (List.mem_cons_of_mem _ hc)]
    cases e : sameB a b with
    | true =>
      have : before b a = false := by
        have s : sameB b a = true := by
          simp [sameB] at e ⊢
          exact ⟨e.1.symm, e.2.symm⟩
        exact sameB_not s
      simp [this]
    | false =>
      have := before_tri a b h0 e
      simp [this]

theorem putF_ok (b : Bigram) : ∀ (l acc : List Bigram), l.Pairwise (fun a c => before a c = true) → putF b l acc false = (if l.all (fun a => before a b) then (acc ++ l, false) else (acc ++ putB b l, true))
  | [], acc, _ => by simp [putF]
  | a :: r, acc, h => by
    rw [List.pairwise_cons] at h
    unfold putF
    cases e : before a b with
    | true =>
      have s : sameB a b = false := by
        cases q : sameB a b with
        | false => rfl
        | true => rw [sameB_not q] at e; cases e
      have e2 := before_asym e
      rw [s]
      simp only [Bool.not_true, Bool.and_false, cond_false, Bool.or_false]
      rw [putF_ok b r _ h.2]
      unfold putB
      simp only [List.all_cons, e, Bool.true_and, List.filter_cons, e2, if_true]
      by_cases c : r.all (fun a => before a b) = true
      · rw [if_pos c, if_pos c]
        simp
      · rw [if_neg c, if_neg c]
        simp
    | false =>
      have nb : ∀ c ∈ r, before c b = false := fun c hc => by
        cases q : before c b with
        | false => rfl
        | true =>
          have := before_trans (h.1 c hc) q
          rw [e] at this
          cases this
      have f1 : r.filter (fun a => before a b) = [] := by
        rw [List.filter_eq_nil_iff]
        intro c hc
        rw [nb c hc]
        exact Bool.false_ne_true
      have dn := putF_done b r
      simp only [Bool.not_false, Bool.and_true, cond_true, Bool.or_true]
      rw [dn _ nb]
      simp only [List.all_cons, e, Bool.false_and, Bool.false_eq_true, if_false]
      unfold putB
      rw [List.filter_cons, e]
      simp only [Bool.false_eq_true, if_false, f1, List.nil_append, List.filter_cons]
      cases s : sameB a b with
      | true =>
        have : before b a = false := by
          have s2 : sameB b a = true := by
            simp [sameB] at s ⊢
            exact ⟨s.1.symm, s.2.symm⟩
          exact sameB_not s2
        simp [this]
      | false =>
        have := before_tri a b e s
        simp [this]

theorem putB_end {b : Bigram} {l : List Bigram} (h : l.all (fun a => before a b) = true) : l ++ [b] = putB b l := by
  have h1 : l.filter (fun a => before a b) = l := List.filter_eq_self.2 fun a ha => List.all_eq_true.1 h a ha
  have h2 : l.filter (fun a => before b a) = [] := by
    rw [List.filter_eq_nil_iff]
    intro a ha
    rw [before_asym (List.all_eq_true.1 h a ha)]
    exact Bool.false_ne_true
  unfold putB
  rw [h1, h2]

theorem putB_sorted {b : Bigram} {l : List Bigram} (h : l.Pairwise fun a c => before a c = true) : (putB b l).Pairwise fun a c => before a c = true := by
  unfold putB
  rw [List.pairwise_append]
  refine ⟨h.filter _, ?_, fun a ha c hc => ?_⟩
  · rw [List.pairwise_cons]
    exact ⟨fun c hc => (List.mem_filter.1 hc).2, h.filter _⟩
  · have h1 := (List.mem_filter.1 ha).2
    rcases List.mem_cons.1 hc with e | e
    · subst e; exact h1
    · exact before_trans h1 (List.mem_filter.1 e).2

theorem putB_mem {b c : Bigram} {l : List Bigram} : c ∈ putB b l ↔ c = b ∨ (c ∈ l ∧ sameB c b = false) := by
  unfold putB
  rw [List.mem_append, List.mem_cons, List.mem_filter, List.mem_filter]
  constructor
  · rintro (⟨h1, h2⟩ | h | ⟨h1, h2⟩)
    · refine .inr ⟨h1, ?_⟩
      cases q : sameB c b with
      | false => rfl
      | true => rw [sameB_not q] at h2; cases h2
    · exact .inl h
    · refine .inr ⟨h1, ?_⟩
      cases q : sameB c b with
      | false => rfl
      | true =>
        have s2 : sameB b c = true := by
          simp [sameB] at q ⊢
          exact ⟨q.1.symm, q.2.symm⟩
        rw [sameB_not s2] at h2
        cases h2
  · rintro (h | ⟨h1, h2⟩)
    · exact .inr (.inl h)
    · cases e : before c b with
      | true => exact .inl ⟨h1, rfl⟩
      | false => exact .inr (.inr ⟨h1, before_tri c b e h2⟩)

theorem setS_nat {A : Type} (s : Sl A) (i : Nat) (v : A) : (setS s (i : Int) v).getD [] = (s.getD []).set i v := by
  cases s with
  | none => rfl
  | some l => rfl

theorem before_spec (a b : Bigram) : t_spec_l18Before a b = some (before a b) := by
  unfold t_spec_l18Before before
  cases ltS a.first b.first <;> by_cases h : a.first = b.first <;> cases ltS a.second b.second <;> simp [h]

theorem putLoop (l : Sl Bigram) (b : Bigram) (hl : (l.getD []).length ≤ 1000000000) : ∀ (suf pre : List Bigram) (w : Sl Bigram) (d : Bool), l.getD [] = pre ++ suf → (w.getD []).length + 2 * suf.length ≤ 4294967290 →
    ∃ (w' : Sl Bigram) (d' : Bool), loopT (s0_spec_l18Put l b) (w, d, (pre.length : Int)) = some (w', d') ∧ (w'.getD [], d') = putF b suf (w.getD []) d
  | [], pre, w, d, h, _ => by
    refine ⟨w, d, loopT_end ?_, rfl⟩
    have e : (l.getD []).length = pre.length := by rw [h]; simp
    unfold s0_spec_l18Put
    simp only [e, Int.lt_irrefl, decide_false, cond_false]
  | a :: r, pre, w, d, h, hw => by
    have hx : (l.getD [])[pre.length]? = some a := by rw [h]; simp
    have hlt : pre.length < (l.getD []).length := by rw [h]; simp
    simp only [List.length_cons] at hw
    have c : (pre.length : Int) < (((l.getD []).length : Nat) : Int) := by omega
    have len : (pre ++ [a]).length = pre.length + 1 := by simp
    have ws := wr_succ hlt (show (l.getD []).length ≤ 4294967296 by omega)
    have ap1 : appO w [b] = some (appS w [b]) := appO_some (by simp; omega)
    have ap2 : appO w [a] = some (appS w [a]) := appO_some (by simp; omega)
    have ap3 : appO (appS w [b]) [a] = some (appS (appS w [b]) [a]) := appO_some (by rw [appS_getD]; simp; omega)
    have key : ∃ (w1 : Sl Bigram) (d1 : Bool), s0_spec_l18Put l b (w, d, (pre.length : Int)) = some (.inl (w1, d1, (((pre ++ [a]).length : Nat) : Int))) ∧ w1.getD [] = (bif !d && !before a b then w.getD [] ++ [b] else w.getD []) ++ (bif sameB a b then [] else [a]) ∧ d1 = (d || !before a b) := by
      unfold s0_spec_l18Put
      simp only [c, decide_true, cond_true, getI_nat hx, obind_sm, before_spec, len, ws]
      have sb : sameB a b = (decide (a.first = b.first) && decide (a.second = b.second)) := rfl
      rw [sb]
      cases d <;> cases before a b <;> cases decide (a.first = b.first) <;> cases decide (a.second = b.second) <;>
        simp only [Bool.not_true, Bool.not_false, cond_true, cond_false, obind_sm, ap1, ap2, ap3, Bool.and_true, Bool.and_false, Bool.true_and, Bool.false_and] <;>
        exact ⟨_, _, rfl, by simp [appS_getD], rfl⟩
    obtain ⟨w1, d1, k1, k2, k3⟩ := key
    have hb1 : (w1.getD []).length ≤ (w.getD []).length + 2 := by
      rw [k2]
      cases (!d && !before a b) <;> cases sameB a b <;> simp
    obtain ⟨w', d', e1, e2⟩ := putLoop l b hl r (pre ++ [a]) w1 d1 (by rw [h]; simp) (by omega)
    refine ⟨w', d', ?_, ?_⟩
    · rw [loopT_next k1]
      exact e1
    · rw [e2, k2, k3]
      rfl

theorem put_ok (l : Sl Bigram) (b : Bigram) (hl : (l.getD []).length ≤ 1000000000) (hs : (l.getD []).Pairwise fun a c => before a c = true) : ∃ r : Sl Bigram, t_spec_l18Put l b = some r ∧ r.getD [] = putB b (l.getD []) := by
  obtain ⟨w, d, e1, e2⟩ := putLoop l b hl (l.getD []) [] (some []) false rfl (by show 0 + _ ≤ _; omega)
  have e1' : loopT (s0_spec_l18Put l b) ((some ([] : List Bigram)), false, 0) = some (w, d) := e1
  rw [show ((some [] : Sl Bigram).getD []) = [] from rfl, putF_ok b _ _ hs] at e2
  unfold t_spec_l18Put
  rw [e1', obind_sm]
  by_cases c : (l.getD []).all (fun a => before a b) = true
  · rw [if_pos c] at e2
    have h1 : w.getD [] = l.getD [] := congrArg Prod.fst e2
    have h2 : d = false := congrArg Prod.snd e2
    subst h2
    refine ⟨appS w [b], ?_, by rw [appS_getD, h1]; exact putB_end c⟩
    have ap : appO w [b] = some (appS w [b]) := appO_some (by rw [h1]; simp; omega)
    simp only [Bool.not_false, cond_true, ap, obind_sm]
  · rw [if_neg c] at e2
    have h1 : w.getD [] = putB b (l.getD []) := congrArg Prod.fst e2
    have h2 : d = true := congrArg Prod.snd e2
    subst h2
    exact ⟨w, rfl, h1⟩

/-! ### Texts of marks -/
theorem mark_dig : ∀ r : Fin 10, byteI (wr (48 + ((r.val : Nat) : Int))) = (48 + r.val).toUInt8 := by decide +kernel

theorem markLoop : ∀ (k : Nat) (out : ByteArray), k + out.size ≤ 1000000000 → loopT s0_laws_markText ((k : Int), out) = some (digT k out) := by
  intro k out
  induction k, out using digT.induct with
  | case1 out =>
    intro _
    rw [digT, dif_pos rfl]
    refine loopT_end ?_
    unfold s0_laws_markText
    rfl
  | case2 k out h ih =>
    intro hs
    rw [digT, dif_neg h]
    have sz : ((⟨#[(48 + k % 10).toUInt8]⟩ : ByteArray) ++ out).size = 1 + out.size := size_one _ _
    have c : decide ((0 : Int) < (k : Int)) = true := decide_eq_true (by omega)
    have m1 : Int.tmod (k : Int) 10 = ((k % 10 : Nat) : Int) := rfl
    have m2 : Int.tdiv (k : Int) 10 = ((k / 10 : Nat) : Int) := rfl
    have w : wr ((k / 10 : Nat) : Int) = ((k / 10 : Nat) : Int) := wr_id (by omega) (by omega)
    have b : byteI (wr (48 + ((k % 10 : Nat) : Int))) = (48 + k % 10).toUInt8 := mark_dig ⟨k % 10, by omega⟩
    have ct : catO (strL ((some ([(48 + k % 10).toUInt8] : List UInt8)).getD [])) out = some ((⟨#[(48 + k % 10).toUInt8]⟩ : ByteArray) ++ out) := by
      unfold catO
      rw [if_pos (by
        show (((⟨#[(48 + k % 10).toUInt8]⟩ : ByteArray).size + out.size : Nat) : Int) ≤ _
        have : (⟨#[(48 + k % 10).toUInt8]⟩ : ByteArray).size = 1 := rfl
        omega)]
      rfl
    rw [loopT_next (s' := (((k / 10 : Nat) : Int), (⟨#[(48 + k % 10).toUInt8]⟩ : ByteArray) ++ out))]
    · exact ih (by rw [sz]; omega)
    · unfold s0_laws_markText
      simp only [c, cond_true, m1, m2, w, b, ct, obind_sm]

theorem markText_ok {k : Nat} (h : k ≤ 100000000) : t_laws_markText (k : Int) = some (markT k) := by
  unfold t_laws_markText markT
  by_cases h0 : k = 0
  · subst h0
    rfl
  · have c : decide ((k : Int) ≤ 0) = false := decide_eq_false (by omega)
    have d : decide (k = 0) = false := decide_eq_false h0
    have sz := digT_size k ⟨#[]⟩
    have e : (⟨#[]⟩ : ByteArray).size = 0 := rfl
    have ct : catO (⟨#[109]⟩ : ByteArray) (digT k ⟨#[]⟩) = some ((⟨#[109]⟩ : ByteArray) ++ digT k ⟨#[]⟩) := by
      unfold catO
      rw [if_pos (by
        have : (⟨#[109]⟩ : ByteArray).size = 1 := rfl
        omega)]
    rw [c, d, cond_false, cond_false, markLoop k ⟨#[]⟩ (by omega), obind_sm, ct, obind_sm]

theorem mkBg_get : ∀ (n k i : Nat), i < n → (mkBg k n)[i]? = some ⟨markT (k + 3 * i), markT (k + 3 * i + 1), ((k + 3 * i + 2 : Nat) : Int)⟩
  | 0, _, _, h => by omega
  | n + 1, k, 0, _ => by simp [mkBg]
  | n + 1, k, i + 1, h => by
    have := mkBg_get n (k + 3) i (by omega)
    simp only [mkBg, List.getElem?_cons_succ, this]
    have e : k + 3 + 3 * i = k + 3 * (i + 1) := by omega
    rw [e]

theorem heldBg_ok {s : Sl Bigram} {n : Nat} (hs : s.getD [] = mkBg 1 n) (hn : n ≤ 2000000) : t_laws_heldBigramS s 1 = some (1 + 3 * (n : Int)) := by
  have lp := loopT_at (step := s0_laws_heldBigramS s) n (fun k => (((1 + 3 * k : Nat) : Int), (k : Int))) (.inl ((1 + 3 * n : Nat) : Int))
    (fun k hk => by
      have c : (k : Int) < (((mkBg 1 n).length : Nat) : Int) := by rw [mkBg_len]; omega
      have ws := wr_succ hk (by omega)
      have w1 : wr (((1 + 3 * k : Nat) : Int) + 1) = ((1 + 3 * k + 1 : Nat) : Int) := by rw [wr_id (by omega) (by omega)]; omega
      have w2 : wr (((1 + 3 * k + 1 : Nat) : Int) + 1) = ((1 + 3 * k + 2 : Nat) : Int) := by rw [wr_id (by omega) (by omega)]; omega
      have w3 : wr (((1 + 3 * k + 2 : Nat) : Int) + 1) = ((1 + 3 * (k + 1) : Nat) : Int) := by rw [wr_id (by omega) (by omega)]; omega
      unfold s0_laws_heldBigramS
      simp only [hs, c, decide_true, cond_true, getI_nat (mkBg_get n 1 k hk), obind_sm, Bool.not_true, cond_false, ws, w1, w2, w3, markText_ok (show 1 + 3 * k ≤ 100000000 by omega), markText_ok (show 1 + 3 * k + 1 ≤ 100000000 by omega)])
    (by
      have c : ¬ (n : Int) < (((mkBg 1 n).length : Nat) : Int) := by rw [mkBg_len]; omega
      unfold s0_laws_heldBigramS
      simp only [hs, c, decide_false, cond_false])
    0 (Nat.zero_le _)
  have lp' : loopT (s0_laws_heldBigramS s) (1, 0) = some (.inl ((1 + 3 * n : Nat) : Int)) := lp
  have e : ((1 + 3 * n : Nat) : Int) = 1 + 3 * (n : Int) := by omega
  unfold t_laws_heldBigramS
  rw [lp', obind_sm, e]

theorem markBg_ok (s : Sl Bigram) (d : Int) (hl : (s.getD []).length ≤ 1000) : ∃ v : Sl Bigram, t_laws_markBigramS s 1 = some (1 + 3 * (((s.getD []).length : Nat) : Int), v) ∧ t_laws_heldModel ⟨d, v⟩ 1 = some (1 + 3 * (((s.getD []).length : Nat) : Int)) := by
  refine ⟨s.map fun l => mkBg 1 l.length, ?_, ?_⟩
  · unfold t_laws_markBigramS
    have d2 : decide (1 + 3 * (((s.getD []).length : Nat) : Int) ≤ 100000000) = true := decide_eq_true (by omega)
    rw [d2]
    rfl
  · have g : (s.map fun l => mkBg 1 l.length).getD [] = mkBg 1 (s.getD []).length := by cases s <;> rfl
    have h := heldBg_ok g (by omega)
    have d : decide (1 + 3 * (((s.getD []).length : Nat) : Int) < 0) = false := decide_eq_false (by omega)
    unfold t_laws_heldModel
    simp only [h, obind_sm, d, cond_false]

/-! ### A pair is set in a model -/
theorem srt_pw {l : List Bigram} (h : srtB l = true) : l.Pairwise fun a c => before a c = true := by
  rw [List.pairwise_iff_getElem]
  intro i j hi hj hij
  exact srt_of h j i hj hij

theorem before_same {a b c : Bigram} (h : sameB b c = true) : before b a = before c a := by
  simp [sameB] at h
  simp [before, h.1, h.2]

theorem sameB_symm {a b : Bigram} (h : sameB a b = true) : sameB b a = true := by
  simp [sameB] at h ⊢
  exact ⟨h.1.symm, h.2.symm⟩

theorem no_same {l : List Bigram} (h : srtB l = true) {b : Bigram} (hh : hitB l b = false) : ∀ a ∈ l, sameB a b = false := fun a ha => by
  obtain ⟨i, hi, rfl⟩ := List.mem_iff_getElem.1 ha
  cases e : sameB l[i] b with
  | false => rfl
  | true =>
    exfalso
    have p1 := pos_ok h b hi
    rw [sameB_not e] at p1
    have hge : posB l b ≤ i := by
      have := of_decide_eq_false p1.symm
      omega
    by_cases hip : i = posB l b
    · unfold hitB at hh
      rw [← hip, List.getElem?_eq_getElem hi] at hh
      simp only at hh
      rw [e] at hh
      cases hh
    · have hp : posB l b < l.length := by omega
      have q := srt_of h i (posB l b) hi (by omega)
      rw [sameB_before e] at q
      have p2 := pos_ok h b hp
      rw [q] at p2
      have := of_decide_eq_true p2.symm
      omega

theorem ins_put {l : List Bigram} (h : srtB l = true) {b : Bigram} (hh : hitB l b = false) : l.take (posB l b) ++ b :: l.drop (posB l b) = putB b l := by
  have ns := no_same h hh
  have pw := srt_pw h
  have t1 : ∀ a ∈ l.take (posB l b), before a b = true := fun a ha => by
    obtain ⟨i, hi, e⟩ := List.mem_take_iff_getElem.1 ha
    rw [← e, pos_ok h b (by omega)]
    exact decide_eq_true (by omega)
  have t2 : ∀ a ∈ l.drop (posB l b), before b a = true := fun a ha => by
    obtain ⟨i, hi, e⟩ := List.mem_iff_getElem.1 ha
    rw [List.getElem_drop] at e
    have hlt : posB l b + i < l.length := by
      rw [List.length_drop] at hi
      omega
    have nb : before a b = false := by
      rw [← e, pos_ok h b hlt]
      exact decide_eq_false (by omega)
    exact before_tri a b nb (ns a (List.mem_of_mem_drop ha))
  refine sorted_ext ?_ (putB_sorted pw) fun c => ?_
  · rw [List.pairwise_append, List.pairwise_cons]
    refine ⟨pw.sublist (List.take_sublist _ _), ⟨t2, pw.sublist (List.drop_sublist _ _)⟩, fun a ha c hc => ?_⟩
    rcases List.mem_cons.1 hc with e | e
    · subst e; exact t1 a ha
    · exact before_trans (t1 a ha) (t2 c e)
  · rw [putB_mem, List.mem_append, List.mem_cons]
    have split : c ∈ l ↔ c ∈ l.take (posB l b) ∨ c ∈ l.drop (posB l b) := by
      rw [← List.mem_append, List.take_append_drop]
    constructor
    · rintro (k | k | k)
      · exact .inr ⟨split.2 (.inl k), ns c (split.2 (.inl k))⟩
      · exact .inl k
      · exact .inr ⟨split.2 (.inr k), ns c (split.2 (.inr k))⟩
    · rintro (k | ⟨k, _⟩)
      · exact .inr (.inl k)
      · rcases split.1 k with q | q
        · exact .inl q
        · exact .inr (.inr q)

theorem set_put {l : List Bigram} (h : srtB l = true) {b : Bigram} (hh : hitB l b = true) : l.set (posB l b) b = putB b l ∧ posB l b < l.length := by
  have pw := srt_pw h
  obtain ⟨a, ha, hs⟩ : ∃ a, l[posB l b]? = some a ∧ sameB a b = true := by
    unfold hitB at hh
    cases e : l[posB l b]? with
    | none => rw [e] at hh; cases hh
    | some a => rw [e] at hh; exact ⟨a, rfl, hh⟩
  obtain ⟨hp, ea⟩ := List.getElem?_eq_some_iff.1 ha
  have get : ∀ (i : Nat) (hi : i < (l.set (posB l b) b).length), ∃ c, l[i]? = some c ∧ sameB (l.set (posB l b) b)[i] c = true ∧ (i ≠ posB l b → (l.set (posB l b) b)[i] = c) := fun i hi => by
    have hi' : i < l.length := by simpa using hi
    refine ⟨l[i], List.getElem?_eq_getElem hi', ?_, fun hne => ?_⟩
    · rw [List.getElem_set]
      split
      · rename_i e
        subst e
        rw [ea]
        exact sameB_symm hs
      · simp [sameB]
    · rw [List.getElem_set, if_neg (fun e => hne e.symm)]
  refine ⟨sorted_ext ?_ (putB_sorted pw) fun c => ?_, hp⟩
  · rw [List.pairwise_iff_getElem]
    intro i j hi hj hij
    obtain ⟨x, x1, x2, _⟩ := get i hi
    obtain ⟨y, y1, y2, _⟩ := get j hj
    obtain ⟨_, ex⟩ := List.getElem?_eq_some_iff.1 x1
    obtain ⟨_, ey⟩ := List.getElem?_eq_some_iff.1 y1
    rw [before_same x2, sameB_before y2, ← ex, ← ey]
    exact srt_of h j i (by simpa using hj) hij
  · rw [putB_mem]
    constructor
    · intro hc
      obtain ⟨i, hi, e⟩ := List.mem_iff_getElem.1 hc
      have hi' : i < l.length := by simpa using hi
      by_cases hip : i = posB l b
      · left
        subst hip
        rw [← e]
        simp
      · right
        obtain ⟨x, x1, _, x3⟩ := get i hi
        obtain ⟨_, ex⟩ := List.getElem?_eq_some_iff.1 x1
        rw [x3 hip] at e
        subst e
        refine ⟨List.mem_of_getElem? x1, ?_⟩
        cases q : sameB x b with
        | false => rfl
        | true =>
          exfalso
          have sx : sameB x a = true := by
            simp [sameB] at q hs ⊢
            exact ⟨q.1.trans hs.1.symm, q.2.trans hs.2.symm⟩
          have irr := sameB_not sx
          have irr2 := sameB_not (sameB_symm sx)
          rcases Nat.lt_or_gt_of_ne hip with k | k
          · have := srt_of h (posB l b) i hp k
            rw [ex, ea, irr] at this
            cases this
          · have := srt_of h i (posB l b) hi' k
            rw [ex, ea, irr2] at this
            cases this
    · rintro (k | ⟨k, ks⟩)
      · subst k
        exact List.mem_iff_getElem.2 ⟨posB l c, by simpa using hp, by simp⟩
      · obtain ⟨i, hi, e⟩ := List.mem_iff_getElem.1 k
        have hip : posB l b ≠ i := fun q => by
          subst q
          rw [ea] at e
          subst e
          rw [hs] at ks
          cases ks
        exact List.mem_iff_getElem.2 ⟨i, by simpa using hi, by rw [List.getElem_set, if_neg hip]; exact e⟩

theorem bsB_ok {s : Sl Bigram} (h : srtB (s.getD []) = true) (hl : (s.getD []).length ≤ 4294967296) (b : Bigram) : t_slices_BinarySearchFunc_impl_Bigram_impl_Bigram_impl_Bigram s b ⟨⟩ = some ((posB (s.getD []) b : Int), hitB (s.getD []) b) := by
  have neg : ∀ a : Bigram, decide (cmpB a b < 0) = before a b := fun a => by
    have := cmpB_before a b
    rw [← Bool.not_not (before a _), ← this, ← decide_not]
    exact decide_eq_decide.2 (by omega)
  have lp := bsLoop (step := s0_slices_BinarySearchFunc_impl_Bigram_impl_Bigram_impl_Bigram s b) (n := (s.getD []).length) (p := posB (s.getD []) b) hl
    (fun i j hij hj => by
      have c : (i : Int) < (j : Int) := by omega
      have hm : (i + j) / 2 < (s.getD []).length := by omega
      have ha : (s.getD [])[(i + j) / 2]? = some ((s.getD [])[(i + j) / 2]) := List.getElem?_eq_getElem hm
      unfold s0_slices_BinarySearchFunc_impl_Bigram_impl_Bigram_impl_Bigram
      simp only [c, decide_true, cond_true, mid_ok (show i + j ≤ 9000000000000000000 by omega), getI_nat ha, obind_sm, neg, pos_ok h b hm]
      cases decide ((i + j) / 2 < posB (s.getD []) b) <;> rfl)
    (fun i => by
      unfold s0_slices_BinarySearchFunc_impl_Bigram_impl_Bigram_impl_Bigram
      simp only [Int.lt_irrefl, decide_false, cond_false])
    (s.getD []).length 0 (s.getD []).length (by omega) (by omega) (pos_le _ _) (by omega)
  have z : ((0 : Nat) : Int) = 0 := rfl
  rw [z] at lp
  unfold t_slices_BinarySearchFunc_impl_Bigram_impl_Bigram_impl_Bigram
  rw [lp, obind_sm]
  unfold hitB
  by_cases hp : posB (s.getD []) b < (s.getD []).length
  · obtain ⟨a, ha⟩ : ∃ a, (s.getD [])[posB (s.getD []) b]? = some a := ⟨_, List.getElem?_eq_getElem hp⟩
    have c : (posB (s.getD []) b : Int) < (((s.getD []).length : Nat) : Int) := by omega
    simp only [c, decide_true, cond_true, getI_nat ha, obind_sm, cmpB_zero, ha]
  · have c : ¬ (posB (s.getD []) b : Int) < (((s.getD []).length : Nat) : Int) := by omega
    simp only [c, decide_false, cond_false, obind_sm, List.getElem?_eq_none (Nat.not_lt.1 hp)]

theorem cloneB_ok (s : Sl Bigram) (hl : (s.getD []).length ≤ 4294967296) : ∃ c : Sl Bigram, t_slices_Clone_impl_Bigram_impl_Bigram s = some c ∧ c.getD [] = s.getD [] := by
  unfold t_slices_Clone_impl_Bigram_impl_Bigram
  cases s with
  | none => exact ⟨none, rfl, rfl⟩
  | some l =>
    refine ⟨appS (some []) l, ?_, by rw [appS_getD]; rfl⟩
    have ap : appO (some ([] : List Bigram)) l = some (appS (some []) l) := appO_some (by show 0 + l.length ≤ _; have : l.length ≤ 4294967296 := hl; omega)
    show (obind (appO (some ([] : List Bigram)) l) fun _ => some (appS (some ([] : List Bigram)) l)) = _
    rw [ap, obind_sm]

theorem set_both {m : Model} {b : Bigram} (hs : smallBigs m) (h1 : b.first.size ≤ 4294967296) (h2 : b.second.size ≤ 4294967296) : ∃ (g w : Model) (code : Int), t_impl_SetBigram m b = some (g, code) ∧ t_spec_SetBigram m b = some (w, code) ∧ g.default = w.default ∧ g.bigrams.getD [] = w.bigrams.getD [] ∧ (g.bigrams.getD []).length ≤ 61 := by
  unfold t_impl_SetBigram t_spec_SetBigram
  rw [implMod_ok hs, specMod_ok hs, implBig_ok h1 h2, specBig_ok h1 h2]
  simp only [obind_sm]
  cases hm : modB m with
  | false => exact ⟨⟨0, none⟩, ⟨0, none⟩, 1, rfl, rfl, rfl, rfl, Nat.zero_le _⟩
  | true =>
    cases hb : validBigram b with
    | false => exact ⟨⟨0, none⟩, ⟨0, none⟩, 1, rfl, rfl, rfl, rfl, Nat.zero_le _⟩
    | true =>
      have srt := mod_srt hm
      have l60 : (m.bigrams.getD []).length ≤ 60 := by
        unfold modB at hm
        simp only [Bool.and_eq_true, decide_eq_true_eq] at hm
        exact hm.2.2
      obtain ⟨c, c1, c2⟩ := cloneB_ok m.bigrams hs.1
      obtain ⟨r, r1, r2⟩ := put_ok m.bigrams b (by omega) (srt_pw srt)
      simp only [Bool.not_true, cond_false, obind_sm, bsB_ok srt hs.1 b, c1, r1]
      cases hh : hitB (m.bigrams.getD []) b with
      | true =>
        obtain ⟨e1, e2⟩ := set_put srt hh
        have hlen : (r.getD []).length = (m.bigrams.getD []).length := by rw [r2, ← e1, List.length_set]
        have hg : (c.getD [])[posB (m.bigrams.getD []) b]? = some ((m.bigrams.getD [])[posB (m.bigrams.getD []) b]) := by rw [c2]; exact List.getElem?_eq_getElem e2
        have d : decide (60 < (((r.getD []).length : Nat) : Int)) = false := decide_eq_false (by omega)
        have es : (setS c ((posB (m.bigrams.getD []) b : Nat) : Int) b).getD [] = r.getD [] := by rw [setS_nat, c2, e1, r2]
        refine ⟨⟨m.default, setS c ((posB (m.bigrams.getD []) b : Nat) : Int) b⟩, ⟨m.default, r⟩, 0, ?_, ?_, rfl, es, ?_⟩
        · simp only [cond_true, getI_nat hg, obind_sm]
        · simp only [d, cond_false]
        · show ((setS c ((posB (m.bigrams.getD []) b : Nat) : Int) b).getD []).length ≤ 61
          rw [es]
          omega
      | false =>
        have e1 := ins_put srt hh
        have hp := pos_le (m.bigrams.getD []) b
        have hlen : (r.getD []).length = (m.bigrams.getD []).length + 1 := by
          rw [r2, ← e1]
          simp
          omega
        by_cases big : 60 ≤ (m.bigrams.getD []).length
        · have d1 : decide ((60 : Int) ≤ (((m.bigrams.getD []).length : Nat) : Int)) = true := decide_eq_true (by omega)
          have d2 : decide (60 < (((r.getD []).length : Nat) : Int)) = true := decide_eq_true (by omega)
          exact ⟨⟨0, none⟩, ⟨0, none⟩, 5, by simp only [cond_false, d1, cond_true], by simp only [d2, cond_true], rfl, rfl, Nat.zero_le _⟩
        · have d1 : decide ((60 : Int) ≤ (((m.bigrams.getD []).length : Nat) : Int)) = false := decide_eq_false (by omega)
          have d2 : decide (60 < (((r.getD []).length : Nat) : Int)) = false := decide_eq_false (by omega)
          have io : insO c ((posB (m.bigrams.getD []) b : Nat) : Int) b = some (some ((m.bigrams.getD []).take (posB (m.bigrams.getD []) b) ++ b :: (m.bigrams.getD []).drop (posB (m.bigrams.getD []) b))) := by
            unfold insO
            rw [c2, decide_eq_true (show (0 : Int) ≤ ((posB (m.bigrams.getD []) b : Nat) : Int) by omega), decide_eq_true (show ((posB (m.bigrams.getD []) b : Nat) : Int) ≤ (((m.bigrams.getD []).length : Nat) : Int) by omega), decide_eq_true (show (m.bigrams.getD []).length ≤ 1000000 by omega), Int.toNat_natCast]
            rfl
          refine ⟨⟨m.default, some ((m.bigrams.getD []).take (posB (m.bigrams.getD []) b) ++ b :: (m.bigrams.getD []).drop (posB (m.bigrams.getD []) b))⟩, ⟨m.default, r⟩, 0, ?_, ?_, rfl, ?_, ?_⟩
          · simp only [cond_false, d1, io, obind_sm]
          · simp only [d2, cond_false]
          · rw [r2]
            exact e1
          · show ((m.bigrams.getD []).take (posB (m.bigrams.getD []) b) ++ b :: (m.bigrams.getD []).drop (posB (m.bigrams.getD []) b)).length ≤ 61
            rw [e1, ← r2]
            omega

theorem true_FnExactSetBigram (m : Model) (b : Bigram) (hm : Wt.big m = true) (hb : Wt.big b = true) : t_laws_FnExactSetBigram m b = some true := by
  have bm : Wt.big m.bigrams = true := hm
  have bb : (decide (b.first.size ≤ maxLen) && decide (b.second.size ≤ maxLen)) = true := hb
  rw [Bool.and_eq_true, decide_eq_true_eq, decide_eq_true_eq] at bb
  have Z1 := szModel_ok (l := m) (big_len bm) (fun e he => by
    have h : (decide (e.first.size ≤ maxLen) && decide (e.second.size ≤ maxLen)) = true := big_mem bm he
    rw [Bool.and_eq_true] at h
    exact ⟨of_decide_eq_true h.1, of_decide_eq_true h.2⟩) 1048576 (by omega) (by omega)
  have Z2 := szBigram_ok (e := b) bb.1 bb.2
  have neg : decide ((-1 : Int) < 0) = true := rfl
  unfold t_laws_FnExactSetBigram
  rcases Z1 with z1 | ⟨k1, z1⟩
  · rw [z1, obind_sm, neg, cond_true]
  rw [z1, obind_sm, decide_eq_false (by omega), cond_false]
  rcases Z2 (1048576 - ((wtMod m : Nat) : Int)) (by omega) (by omega) with z2 | ⟨k2, z2⟩
  · rw [z2, obind_sm, neg, cond_true]
  rw [z2, obind_sm, decide_eq_false (by omega), cond_false]
  have lm : (m.bigrams.getD []).length ≤ 1048576 := by
    have := mem_len (wt := fun e : Bigram => e.first.size + e.second.size) m.bigrams
    unfold wtMod at k1
    omega
  have em : ∀ e ∈ m.bigrams.getD [], e.first.size ≤ 4294967296 ∧ e.second.size ≤ 4294967296 := fun e he => by
    have : e.first.size + e.second.size ≤ wtS (fun e : Bigram => e.first.size + e.second.size) m.bigrams := wt_mem (wt := fun e : Bigram => e.first.size + e.second.size) he
    unfold wtMod at k1
    omega
  have k3 : ((b.first.size + b.second.size : Nat) : Int) ≤ 1048576 - ((wtMod m : Nat) : Int) := k2
  have T1 := toModel_ok m (by omega)
  have Q1 := eqModel_ok ⟨m.default, some (m.bigrams.getD [])⟩ (by show (m.bigrams.getD []).length ≤ _; omega)
  obtain ⟨g, w, code, t1, t2, t3, t4, t5⟩ := set_both (m := ⟨m.default, some (m.bigrams.getD [])⟩) (b := b) ⟨by show (m.bigrams.getD []).length ≤ _; omega, em⟩ (by omega) (by omega)
  have E1 : t_laws_eqModel g w = some true := by
    unfold t_laws_eqModel
    rw [t3, decide_eq_true rfl, eqBigramS_ok t4 (by omega)]
    rfl
  have M1 : t_laws_markBigramS (some (m.bigrams.getD [])) 1 = some (1 + 3 * (((m.bigrams.getD []).length : Nat) : Int), some (mkBg 1 (m.bigrams.getD []).length)) := by
    unfold t_laws_markBigramS
    have d1 : decide ((0 : Int) ≤ 1) = true := by decide
    have d2 : decide (1 + 3 * ((((some (m.bigrams.getD []) : Sl Bigram).getD []).length : Nat) : Int) ≤ 100000000) = true := decide_eq_true (by simp only [Option.getD_some]; omega)
    rw [d1, d2]
    rfl
  obtain ⟨v2, M3, Hd⟩ := markBg_ok g.bigrams g.default (by omega)
  have z2 : decide (1 + 3 * (((m.bigrams.getD []).length : Nat) : Int) < 0) = false := decide_eq_false (by omega)
  have z3 : decide (1 + 3 * (((g.bigrams.getD []).length : Nat) : Int) < 0) = false := decide_eq_false (by omega)
  simp only [T1, obind_sm, t1, t2, E1, Q1, decide_true, Bool.not_true, cond_false, M1, z2, M3, Hd, z3]

theorem ok_laws_FnExactSetBigram : PureOK Try.prog n_laws_FnExactSetBigram (G2 (fun (m : Model) (b : Bigram) => Wt.big m && Wt.big b) fun _ _ => bv true) := lawC2 tt_laws_FnExactSetBigram fun m b h => by
  rw [Bool.and_eq_true] at h
  exact true_FnExactSetBigram m b h.1 h.2

theorem law_FnExactSetBigram (m : Model) (b : Bigram) (ha : Row.fine m) (hb : Row.fine b) : G2 (fun (m : Model) (b : Bigram) => Wt.big m && Wt.big b) (fun _ _ => bv true) [enc m, enc b] = some (bv true) := G2_enc _ _ m b (by rw [Wt.fb m ha, Wt.fb b hb]; rfl)

theorem isC_2 {cs : List AV} (h : IsC Try.prog 2 cs) : ∃ x : Int, cs = Row.cells x ∧ Row.fine x := by
  obtain ⟨n, rfl, hn⟩ := IsC.intE Try.underlying2 h
  exact ⟨n, rfl, fine_int hn⟩
theorem isC_9 {cs : List AV} (h : IsC Try.prog 9 cs) : ∃ x : ByteArray, cs = Row.cells x ∧ Row.fine x := by
  obtain ⟨n, rfl, hn⟩ := IsC.strE Try.underlying9 h
  exact ⟨n, rfl, hn⟩
theorem isC_26 {cs : List AV} (h : IsC Try.prog 26 cs) : ∃ x : Bigram, cs = Row.cells x ∧ Row.fine x := by
  replace h := IsC.structE Try.underlying26 h
  obtain ⟨c0, r0, rfl, q0, k0⟩ := IsFs.consE h
  obtain ⟨c1, r1, rfl, q1, k1⟩ := IsFs.consE k0
  obtain ⟨c2, r2, rfl, q2, k2⟩ := IsFs.consE k1
  cases IsFs.nilE k2
  obtain ⟨v0, rfl, w0⟩ := isC_9 q0
  obtain ⟨v1, rfl, w1⟩ := isC_9 q1
  obtain ⟨v2, rfl, w2⟩ := isC_2 q2
  exact ⟨⟨v0, v1, v2⟩, rfl, w0, w1, w2⟩
theorem isC_22 {cs : List AV} (h : IsC Try.prog 22 cs) : ∃ x : (Sl Bigram), cs = Row.cells x ∧ Row.fine x := by
  rcases IsC.sliceE Try.underlying22 h with rfl | ⟨rows, rfl, h1, h2⟩
  · exact ⟨none, rfl, Sl.fineNil⟩
  · exact Sl.isC (by kernel_rfl) h1 fun row hr => isC_26 (h2 row hr)
theorem isC_24 {cs : List AV} (h : IsC Try.prog 24 cs) : ∃ x : Model, cs = Row.cells x ∧ Row.fine x := by
  replace h := IsC.structE Try.underlying24 h
  obtain ⟨c0, r0, rfl, q0, k0⟩ := IsFs.consE h
  obtain ⟨c1, r1, rfl, q1, k1⟩ := IsFs.consE k0
  cases IsFs.nilE k1
  obtain ⟨v0, rfl, w0⟩ := isC_2 q0
  obtain ⟨v1, rfl, w1⟩ := isC_22 q1
  exact ⟨⟨v0, v1⟩, rfl, w0, w1⟩
theorem own : ownKnob Try.prog.godebug = none := by kernel_rfl
theorem laidOut : laidOutB Try.prog = true := by kernel_rfl

set_option maxRecDepth 100000 in
theorem holds : Rows.FnExactSetBigramSaid :=
  OpenClaim.holds_of_wide 3 Try.f3 rfl rfl rfl rfl rfl rfl rfl ⟨rfl, rfl, rfl, rfl, rfl⟩ rfl rfl rfl rfl rfl (by kernel_rfl) Try.func3 (by kernel_rfl)
    (of_decide_eq_true (by kernel_rfl)) (by unfold Func.isWrapper; rw [if_neg (by decide +kernel)]; exact ⟨rfl, rfl⟩)
    (fun os started H enc _ => law_lifted (C := Try.checked) (s := Rows.fnExactSetBigramSpec) own started (by kernel_rfl) Try.func3
      (ChangeSpec.witness6 (enc := enc) (C := Try.checked) false ⟨#[], #[.agg #[.int .i64 0, .slice none 0 0], .agg #[.string ⟨#[]⟩, .string ⟨#[]⟩, .int .i64 0]], []⟩ 8 (by kernel_rfl) (by kernel_rfl) (by kernel_rfl) (by kernel_rfl))
      laidOut rfl (tb := 4) rfl Try.underlying4 (ts := [24, 2, 22, 26, 9]) (by kernel_rfl)
      (fun ds h => by match ds, h with | [d0, d1], _ => rfl)
      hb_laws_FnExactSetBigram ok_laws_FnExactSetBigram (by
    intro l h
    obtain ⟨a0, l0, rfl, g0, k0⟩ := h
    obtain ⟨a1, l1, rfl, g1, k1⟩ := k0
    cases k1
    obtain ⟨c0, rfl, m0⟩ := IsV.structE Try.underlying24 g0
    obtain ⟨b0, rfl, w0⟩ := isC_24 m0
    obtain ⟨c1, rfl, m1⟩ := IsV.structE Try.underlying26 g1
    obtain ⟨b1, rfl, w1⟩ := isC_26 m1
    exact law_FnExactSetBigram b0 b1 w0 w1) (by kernel_rfl))
#print axioms holds
end Go.Proofs.Ytkamngokmkncjaa
