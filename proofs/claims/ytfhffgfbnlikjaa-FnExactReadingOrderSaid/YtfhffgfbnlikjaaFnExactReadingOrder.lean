import Derived.Test.YtfhffgfbnlikjaaFnExactReadingOrderPartB
import Derived.Test.YtfhffgfbnlikjaaRows
namespace Go.Proofs.Ytfhffgfbnlikjaa
open Go Go.Eng Go.Eng.Cod
set_option maxRecDepth 100000
set_option linter.unusedVariables false
set_option linter.unusedSimpArgs false
theorem shR_ok (P : Int → Int → Option Int) {l : List Int} {a q : Nat} (h1 : a < q) (h2 : q ≤ l.length) (hl : l.length ≤ 1000000) : kBa (s4_q36 P (q : Int)) ((some l : Sl Int), (a : Int)) = some (some (shR l a (q - 1 - a))) := by
  have wq : wr ((q : Int) - 1) = ((q - 1 : Nat) : Int) := by rw [kBj (by omega) (by omega)]; omega
  have lp := kGy (step := s4_q36 P (q : Int)) (q - 1 - a) (fun k => ((some (shR l a k) : Sl Int), ((a + k : Nat) : Int))) (some (shR l a (q - 1 - a)))
    (fun k hk => by
      have c : decide (((a + k : Nat) : Int) < ((q - 1 : Nat) : Int)) = true := decide_eq_true (by omega)
      have w1 : wr (((a + k : Nat) : Int) + 1) = ((a + k + 1 : Nat) : Int) := by rw [kBj (by omega) (by omega)]; omega
      have hl' := shR_len l a k
      have g1 := getT (l := shR l a k) (i := a + k + 1) (by omega)
      have g2 := getT (l := shR l a k) (i := a + k) (by omega)
      have g3 : kBp ((kC9 (some (shR l a k)) ((a + k : Nat) : Int) (atL (shR l a k) (a + k + 1))).getD []) ((a + k + 1 : Nat) : Int) = some (atL (shR l a k) (a + k + 1)) := by
        rw [kFc, Option.getD_some]
        refine kAv ?_
        rw [List.getElem?_set_ne (by omega), kDx (by omega)]
      unfold s4_q36
      simp only [wq, c, cond_true, w1, g1, g2, g3, kA2]
      rw [swT (kDx (by omega)) (kDx (by omega))]
      rfl)
    (by
      have c : decide (((a + (q - 1 - a) : Nat) : Int) < ((q - 1 : Nat) : Int)) = false := decide_eq_false (by omega)
      unfold s4_q36
      simp only [wq, c, cond_false]) 0 (by omega)
  exact lp
theorem shL_ok (P : Int → Int → Option Int) {l : List Int} {m q : Nat} (h1 : q ≤ m) (h2 : m < l.length) (hl : l.length ≤ 1000000) : kBa (s5_q36 P (q : Int)) ((some l : Sl Int), (m : Int)) = some (some (shL l m (m - q))) := by
  have lp := kGy (step := s5_q36 P (q : Int)) (m - q) (fun k => ((some (shL l m k) : Sl Int), ((m - k : Nat) : Int))) (some (shL l m (m - q)))
    (fun k hk => by
      have c : decide ((q : Int) < ((m - k : Nat) : Int)) = true := decide_eq_true (by omega)
      have w1 : wr (((m - k : Nat) : Int) - 1) = ((m - k - 1 : Nat) : Int) := by rw [kBj (by omega) (by omega)]; omega
      have hl' := shL_len l m k
      have g1 := getT (l := shL l m k) (i := m - k - 1) (by omega)
      have g2 := getT (l := shL l m k) (i := m - k) (by omega)
      have g3 : kBp ((kC9 (some (shL l m k)) ((m - k : Nat) : Int) (atL (shL l m k) (m - k - 1))).getD []) ((m - k - 1 : Nat) : Int) = some (atL (shL l m k) (m - k - 1)) := by
        rw [kFc, Option.getD_some]
        refine kAv ?_
        rw [List.getElem?_set_ne (by omega), kDx (by omega)]
      have e : m - (k + 1) = m - k - 1 := by omega
      unfold s5_q36
      simp only [c, cond_true, w1, g1, g2, g3, kA2]
      rw [swT (kDx (by omega)) (kDx (by omega)), e]
      rfl)
    (by
      have c : decide ((q : Int) < ((m - (m - q) : Nat) : Int)) = false := decide_eq_false (by omega)
      unfold s5_q36
      simp only [c, cond_false]) 0 (by omega)
  exact lp
theorem kCe {Q : Nat → Bool} : ∀ {f i j : Nat}, i ≤ j → i ≤ kEj Q f i j ∧ kEj Q f i j ≤ j
  | 0, i, j, h => by rw [kEj]; exact ⟨Nat.le_refl _, h⟩
  | f + 1, i, j, h => by
    rw [kEj]
    by_cases c : i < j
    · rw [if_pos c]
      cases q : Q ((i + j) / 2) with
      | true =>
        rw [if_pos rfl]
        obtain ⟨g1, g2⟩ := kCe (Q := Q) (f := f) (i := (i + j) / 2 + 1) (j := j) (by omega)
        exact ⟨by omega, g2⟩
      | false =>
        rw [if_neg (by simp)]
        obtain ⟨g1, g2⟩ := kCe (Q := Q) (f := f) (i := i) (j := (i + j) / 2) (by omega)
        exact ⟨g1, by omega⟩
    · rw [if_neg c]
      exact ⟨Nat.le_refl _, h⟩
theorem cond2 {γ : Type} {p q : Prop} [Decidable p] [Decidable q] {A B : Option γ} : (kA0 (bif decide p then some (decide q) else some false) fun c => bif (bif decide p then c else false) then A else B) = if p ∧ q then A else B := by
  by_cases hp : p
  · by_cases hq : q
    · rw [decide_eq_true hp, decide_eq_true hq, if_pos ⟨hp, hq⟩]
      rfl
    · rw [decide_eq_true hp, decide_eq_false hq, if_neg (fun h => hq h.2)]
      rfl
  · rw [decide_eq_false hp, if_neg (fun h => hp h.1)]
    rfl
theorem symM_mv (c : Int → Int → Bool) : ∀ (f : Nat) {l : List Int} {a m b : Nat}, a < m → m < b → b ≤ l.length → Mv l (symM c f l a m b) a b
  | 0, l, a, m, b, _, _, _ => Mv.refl _ _ _
  | f + 1, l, a, m, b, h1, h2, hb => by
    rw [symM]
    by_cases c1 : m - a = 1
    · rw [if_pos c1]
      have g := kCe (Q := fun h => c (atL l h) (atL l a)) (f := b - m) (i := m) (j := b) (by omega)
      exact shR_mv hb (by omega)
    rw [if_neg c1]
    by_cases c2 : b - m = 1
    · rw [if_pos c2]
      have g := kCe (Q := fun h => !c (atL l m) (atL l h)) (f := m - a) (i := a) (j := m) (by omega)
      exact shL_mv h2 hb (by omega)
    rw [if_neg c2]
    obtain ⟨mid, hmid⟩ : ∃ mid, mid = (a + b) / 2 := ⟨_, rfl⟩
    obtain ⟨s0, hs0⟩ : ∃ s0, s0 = if mid < m then mid + m - b else a := ⟨_, rfl⟩
    obtain ⟨r0, hr0⟩ : ∃ r0, r0 = if mid < m then mid else m := ⟨_, rfl⟩
    rw [← hmid]
    dsimp only
    rw [← hs0, ← hr0]
    have b1 : a ≤ s0 ∧ s0 ≤ r0 ∧ r0 ≤ m ∧ r0 ≤ mid ∧ mid + m ≤ s0 + b := by
      by_cases d : mid < m
      · rw [if_pos d] at hs0 hr0
        omega
      · rw [if_neg d] at hs0 hr0
        omega
    obtain ⟨g1, g2⟩ := kCe (Q := fun k => !c (atL l (mid + m - 1 - k)) (atL l k)) (f := b - a) (i := s0) (j := r0) (by omega)
    generalize kEj (fun k => !c (atL l (mid + m - 1 - k)) (atL l k)) (b - a) s0 r0 = s at g1 g2
    obtain ⟨e, he⟩ : ∃ e, e = mid + m - s := ⟨_, rfl⟩
    rw [← he]
    obtain ⟨l1, hl1⟩ : ∃ l1, l1 = if s < m ∧ m < e then rotL l m (m - s) (e - m) else l := ⟨_, rfl⟩
    rw [← hl1]
    have m1 : Mv l l1 a b := by
      by_cases d : s < m ∧ m < e
      · rw [if_pos d] at hl1
        rw [hl1]
        exact (kG8 (m - s + (e - m)) (l := l) (m := m) (i := m - s) (j := e - m) (Nat.le_refl _) (by omega) (by omega) (by omega) (by omega)).1.wide (by omega) (by omega)
      · rw [if_neg d] at hl1
        rw [hl1]
        exact Mv.refl _ _ _
    have ll1 := m1.len
    obtain ⟨l2, hl2⟩ : ∃ l2, l2 = if a < s ∧ s < mid then symM c f l1 a s mid else l1 := ⟨_, rfl⟩
    rw [← hl2]
    have m2 : Mv l1 l2 a b := by
      by_cases d : a < s ∧ s < mid
      · rw [if_pos d] at hl2
        rw [hl2]
        exact (symM_mv c f d.1 d.2 (by omega)).wide (by omega) (by omega)
      · rw [if_neg d] at hl2
        rw [hl2]
        exact Mv.refl _ _ _
    have ll2 := m2.len
    refine (m1.trans m2).trans ?_
    by_cases d : mid < e ∧ e < b
    · rw [if_pos d]
      exact (symM_mv c f d.1 d.2 (by omega)).wide (by omega) (by omega)
    · rw [if_neg d]
      exact Mv.refl _ _ _
theorem kI0 {P : Int → Int → Option Int} {c : Int → Int → Bool} {n : Nat} (hP : OkP P c n) : ∀ (f : Nat) {l : List Int} {a m b : Nat}, b - a ≤ f → a < m → m < b → b ≤ l.length → l.length ≤ 1000000 → InN l n →
    kF0 P f (some l) (a : Int) (m : Int) (b : Int) = some (some (symM c f l a m b))
  | 0, l, a, m, b, h, h1, h2, _, _, _ => by omega
  | f + 1, l, a, m, b, hf, h1, h2, hb, hl, hN => by
    show kB8 P (kF0 P f) (some l) (a : Int) (m : Int) (b : Int) = _
    have wma : wr ((m : Int) - (a : Int)) = ((m - a : Nat) : Int) := by rw [kBj (by omega) (by omega)]; omega
    have wbm : wr ((b : Int) - (m : Int)) = ((b - m : Nat) : Int) := by rw [kBj (by omega) (by omega)]; omega
    rw [symM]
    unfold kB8
    rw [wma, wbm]
    by_cases c1 : m - a = 1
    · rw [if_pos c1, decide_eq_true (show ((m - a : Nat) : Int) = 1 by omega), cond_true]
      have lp := half_ok (step := s0_q36 P (some l) (a : Int)) (Q := fun h => c (atL l h) (atL l a)) (I := m) (J := b)
        (fun i j k1 k2 k3 => by
          have d := decide_eq_true (show (i : Int) < (j : Int) by omega)
          have wm := midS_ok (a := i) (b := j) (by omega)
          have w1 : wr ((((i + j) / 2 : Nat) : Int) + 1) = (((i + j) / 2 + 1 : Nat) : Int) := by rw [kBj (by omega) (by omega)]; omega
          have g1 := getT (l := l) (i := (i + j) / 2) (by omega)
          have g2 := getT (l := l) (i := a) (by omega)
          have n1 := hN.at (i := (i + j) / 2) (by omega)
          have n2 := hN.at (i := a) (by omega)
          obtain ⟨r, e1, e2⟩ := hP _ _ n1.1 n1.2 n2.1 n2.2
          unfold s0_q36
          simp only [d, cond_true, wm, g1, g2, kA2, e1, w1, e2]
          cases c (atL l ((i + j) / 2)) (atL l a) <;> simp)
        (fun i j k => by
          unfold s0_q36
          dsimp only
          rw [decide_eq_false (show ¬ (i : Int) < (j : Int) by omega), cond_false]) (b - m) (i := m) (j := b) (by omega) (Nat.le_refl _) (Nat.le_refl _)
      obtain ⟨r1, r2⟩ := kCe (Q := fun h => c (atL l h) (atL l a)) (f := b - m) (i := m) (j := b) (by omega)
      rw [lp, kA2, shR_ok P (by omega) (by omega) hl, kA2]
    rw [if_neg c1, decide_eq_false (show ¬ ((m - a : Nat) : Int) = 1 by omega), cond_false]
    by_cases c2 : b - m = 1
    · rw [if_pos c2, decide_eq_true (show ((b - m : Nat) : Int) = 1 by omega), cond_true]
      have lp := half_ok (step := s1_q36 P (some l) (m : Int)) (Q := fun h => !c (atL l m) (atL l h)) (I := a) (J := m)
        (fun i j k1 k2 k3 => by
          have d := decide_eq_true (show (i : Int) < (j : Int) by omega)
          have wm := midS_ok (a := i) (b := j) (by omega)
          have w1 : wr ((((i + j) / 2 : Nat) : Int) + 1) = (((i + j) / 2 + 1 : Nat) : Int) := by rw [kBj (by omega) (by omega)]; omega
          have g1 := getT (l := l) (i := (i + j) / 2) (by omega)
          have g2 := getT (l := l) (i := m) (by omega)
          have n1 := hN.at (i := (i + j) / 2) (by omega)
          have n2 := hN.at (i := m) (by omega)
          obtain ⟨r, e1, e2⟩ := hP _ _ n2.1 n2.2 n1.1 n1.2
          unfold s1_q36
          simp only [d, cond_true, wm, g1, g2, kA2, e1, w1, e2]
          cases c (atL l m) (atL l ((i + j) / 2)) <;> simp)
        (fun i j k => by
          unfold s1_q36
          dsimp only
          rw [decide_eq_false (show ¬ (i : Int) < (j : Int) by omega), cond_false]) (m - a) (i := a) (j := m) (by omega) (Nat.le_refl _) (Nat.le_refl _)
      obtain ⟨r1, r2⟩ := kCe (Q := fun h => !c (atL l m) (atL l h)) (f := m - a) (i := a) (j := m) (by omega)
      rw [lp, kA2, shL_ok P (by omega) (by omega) hl, kA2]
    rw [if_neg c2, decide_eq_false (show ¬ ((b - m : Nat) : Int) = 1 by omega), cond_false]
    obtain ⟨mid, hmid⟩ : ∃ mid, mid = (a + b) / 2 := ⟨_, rfl⟩
    have wmid := midS_ok (a := a) (b := b) (by omega)
    rw [← hmid] at wmid ⊢
    have wn : wr ((mid : Int) + (m : Int)) = ((mid + m : Nat) : Int) := by rw [kBj (by omega) (by omega)]; omega
    have wn1 : wr (((mid + m : Nat) : Int) - 1) = ((mid + m - 1 : Nat) : Int) := by rw [kBj (by omega) (by omega)]; omega
    simp only [wmid, wn, cond2]
    have step3 : ∀ (l2 : List Int) (e : Nat), l2.length = l.length → InN l2 n → mid ≤ e → (if (mid : Int) < (e : Int) ∧ (e : Int) < (b : Int) then kA0 (kF0 P f (some l2) (mid : Int) (e : Int) (b : Int)) fun w3 => some w3 else some (some l2)) = some (some (if mid < e ∧ e < b then symM c f l2 mid e b else l2)) := fun l2 e k1 k2 k3 => by
      by_cases d : mid < e ∧ e < b
      · rw [if_pos (by omega), if_pos d, kI0 hP f (by omega) d.1 d.2 (by omega) (by omega) k2, kA2]
      · rw [if_neg (by omega), if_neg d]
    have step2 : ∀ (l1 : List Int) (s e : Nat), l1.length = l.length → InN l1 n → mid ≤ e → s ≤ mid →
        (if (a : Int) < (s : Int) ∧ (s : Int) < (mid : Int) then kA0 (kF0 P f (some l1) (a : Int) (s : Int) (mid : Int)) fun w2 => (if (mid : Int) < (e : Int) ∧ (e : Int) < (b : Int) then kA0 (kF0 P f w2 (mid : Int) (e : Int) (b : Int)) fun w3 => some w3 else some w2) else (if (mid : Int) < (e : Int) ∧ (e : Int) < (b : Int) then kA0 (kF0 P f (some l1) (mid : Int) (e : Int) (b : Int)) fun w3 => some w3 else some (some l1))) = some (some (if mid < e ∧ e < b then symM c f (if a < s ∧ s < mid then symM c f l1 a s mid else l1) mid e b else (if a < s ∧ s < mid then symM c f l1 a s mid else l1))) := fun l1 s e k1 k2 k3 k4 => by
      by_cases d : a < s ∧ s < mid
      · have q := (symM_mv c f (l := l1) d.1 d.2 (by omega)).perm
        rw [if_pos (show (a : Int) < (s : Int) ∧ (s : Int) < (mid : Int) by omega), if_pos d, kI0 hP f (by omega) d.1 d.2 (by omega) (by omega) k2, kA2]
        exact step3 _ e (by rw [q.length_eq, k1]) (k2.perm q) k3
      · rw [if_neg (show ¬ ((a : Int) < (s : Int) ∧ (s : Int) < (mid : Int)) by omega), if_neg d]
        exact step3 l1 e k1 k2 k3
    have tail : ∀ (s : Nat), a ≤ s → s ≤ m → s ≤ mid → mid + m ≤ s + b →
        (if (s : Int) < (m : Int) ∧ (m : Int) < wr (((mid + m : Nat) : Int) - (s : Int)) then kA0 (kHv P (some l) (s : Int) (m : Int) (wr (((mid + m : Nat) : Int) - (s : Int)))) fun w1 => (if (a : Int) < (s : Int) ∧ (s : Int) < (mid : Int) then kA0 (kF0 P f w1 (a : Int) (s : Int) (mid : Int)) fun w2 => (if (mid : Int) < wr (((mid + m : Nat) : Int) - (s : Int)) ∧ wr (((mid + m : Nat) : Int) - (s : Int)) < (b : Int) then kA0 (kF0 P f w2 (mid : Int) (wr (((mid + m : Nat) : Int) - (s : Int))) (b : Int)) fun w3 => some w3 else some w2) else (if (mid : Int) < wr (((mid + m : Nat) : Int) - (s : Int)) ∧ wr (((mid + m : Nat) : Int) - (s : Int)) < (b : Int) then kA0 (kF0 P f w1 (mid : Int) (wr (((mid + m : Nat) : Int) - (s : Int))) (b : Int)) fun w3 => some w3 else some w1))
         else (if (a : Int) < (s : Int) ∧ (s : Int) < (mid : Int) then kA0 (kF0 P f (some l) (a : Int) (s : Int) (mid : Int)) fun w2 => (if (mid : Int) < wr (((mid + m : Nat) : Int) - (s : Int)) ∧ wr (((mid + m : Nat) : Int) - (s : Int)) < (b : Int) then kA0 (kF0 P f w2 (mid : Int) (wr (((mid + m : Nat) : Int) - (s : Int))) (b : Int)) fun w3 => some w3 else some w2) else (if (mid : Int) < wr (((mid + m : Nat) : Int) - (s : Int)) ∧ wr (((mid + m : Nat) : Int) - (s : Int)) < (b : Int) then kA0 (kF0 P f (some l) (mid : Int) (wr (((mid + m : Nat) : Int) - (s : Int))) (b : Int)) fun w3 => some w3 else some (some l)))) =
        some (some (if mid < mid + m - s ∧ mid + m - s < b then symM c f (if a < s ∧ s < mid then symM c f (if s < m ∧ m < mid + m - s then rotL l m (m - s) (mid + m - s - m) else l) a s mid else (if s < m ∧ m < mid + m - s then rotL l m (m - s) (mid + m - s - m) else l)) mid (mid + m - s) b else (if a < s ∧ s < mid then symM c f (if s < m ∧ m < mid + m - s then rotL l m (m - s) (mid + m - s - m) else l) a s mid else (if s < m ∧ m < mid + m - s then rotL l m (m - s) (mid + m - s - m) else l)))) := fun s k1 k2 k3 k4 => by
      have we : wr (((mid + m : Nat) : Int) - (s : Int)) = ((mid + m - s : Nat) : Int) := by rw [kBj (by omega) (by omega)]; omega
      rw [we]
      generalize he : mid + m - s = e
      by_cases d : s < m ∧ m < e
      · rw [if_pos (show (s : Int) < (m : Int) ∧ (m : Int) < (e : Int) by omega), if_pos d, rotate_ok P d.1 d.2 (by omega) hl, kA2]
        have q := (kG8 (m - s + (e - m)) (l := l) (m := m) (i := m - s) (j := e - m) (Nat.le_refl _) (by omega) (by omega) (by omega) (by omega)).1
        exact step2 _ s e q.len (hN.perm q.perm) (by omega) k3
      · rw [if_neg (show ¬ ((s : Int) < (m : Int) ∧ (m : Int) < (e : Int)) by omega), if_neg d]
        exact step2 l s e rfl hN (by omega) k3
    have lpS : ∀ (step : Int × Int → Option (Sum (Int × Int) Int)), (step = s2_q36 P (some l) (a : Int) (m : Int) (b : Int) ∨ step = s3_q36 P (some l) (a : Int) (m : Int) (b : Int)) → ∀ (i j : Nat), i ≤ j → j ≤ m → j ≤ mid → mid + m ≤ i + b → j ≤ i + (b - a) → kBa step ((i : Int), (j : Int)) = some ((kEj (fun k => !c (atL l (mid + m - 1 - k)) (atL l k)) (b - a) i j : Nat) : Int) := fun step hstep I J k0 k1 k2 k3 k4 => by
      have e0 : s2_q36 P (some l) (a : Int) (m : Int) (b : Int) = s3_q36 P (some l) (a : Int) (m : Int) (b : Int) := rfl
      have e1 : step = s3_q36 P (some l) (a : Int) (m : Int) (b : Int) := by
        rcases hstep with h | h
        · rw [h, e0]
        · exact h
      subst e1
      exact half_ok (Q := fun k => !c (atL l (mid + m - 1 - k)) (atL l k)) (I := I) (J := J)
        (fun i j k5 k6 k7 => by
          have d := decide_eq_true (show (i : Int) < (j : Int) by omega)
          have wm := midS_ok (a := i) (b := j) (by omega)
          have w1 : wr ((((i + j) / 2 : Nat) : Int) + 1) = (((i + j) / 2 + 1 : Nat) : Int) := by rw [kBj (by omega) (by omega)]; omega
          have w2 : wr (((mid + m - 1 : Nat) : Int) - (((i + j) / 2 : Nat) : Int)) = ((mid + m - 1 - (i + j) / 2 : Nat) : Int) := by rw [kBj (by omega) (by omega)]; omega
          have g1 := getT (l := l) (i := (i + j) / 2) (by omega)
          have g2 := getT (l := l) (i := mid + m - 1 - (i + j) / 2) (by omega)
          have n1 := hN.at (i := (i + j) / 2) (by omega)
          have n2 := hN.at (i := mid + m - 1 - (i + j) / 2) (by omega)
          obtain ⟨r, e1, e2⟩ := hP _ _ n2.1 n2.2 n1.1 n1.2
          unfold s3_q36
          simp only [d, cond_true, wm, wmid, wn, wn1, w2, g1, g2, kA2, e1, w1, e2]
          cases c (atL l (mid + m - 1 - (i + j) / 2)) (atL l ((i + j) / 2)) <;> simp)
        (fun i j k => by
          unfold s3_q36
          dsimp only
          rw [decide_eq_false (show ¬ (i : Int) < (j : Int) by omega), cond_false]) (b - a) (i := I) (j := J) k4 (Nat.le_refl _) (Nat.le_refl _)
    by_cases d : mid < m
    · rw [if_pos d, if_pos d, decide_eq_true (show (mid : Int) < (m : Int) by omega), cond_true]
      have w5 : wr (((mid + m : Nat) : Int) - (b : Int)) = ((mid + m - b : Nat) : Int) := by rw [kBj (by omega) (by omega)]; omega
      rw [w5, lpS _ (.inl rfl) (mid + m - b) mid (by omega) (by omega) (Nat.le_refl _) (by omega) (by omega), kA2]
      obtain ⟨g1, g2⟩ := kCe (Q := fun k => !c (atL l (mid + m - 1 - k)) (atL l k)) (f := b - a) (i := mid + m - b) (j := mid) (by omega)
      exact tail _ (by omega) (by omega) g2 (by omega)
    · rw [if_neg d, if_neg d, decide_eq_false (show ¬ (mid : Int) < (m : Int) by omega), cond_false]
      rw [lpS _ (.inr rfl) a m (by omega) (Nat.le_refl _) (by omega) (by omega) (by omega), kA2]
      obtain ⟨g1, g2⟩ := kCe (Q := fun k => !c (atL l (mid + m - 1 - k)) (atL l k)) (f := b - a) (i := a) (j := m) (by omega)
      exact tail _ g1 g2 (by omega) (by omega)
def StbOrd (T : Int → Int → Prop) (c : Int → Int → Bool) : Prop := ∀ u v : Int, u < v → (c v u = true → T v u) ∧ (c v u = false → T u v)
theorem insert_ok {P : Int → Int → Option Int} {c : Int → Int → Bool} {n : Nat} (hP : OkP P c n) {T : Int → Int → Prop} (tr : ∀ x y z, T x y → T y z → T x z) (hc : StbOrd T c) : ∀ (j : Nat) {l : List Int} {a i : Nat}, a ≤ j → j ≤ i → i < l.length → l.length ≤ 1000000 → InN l n →
    (∀ p q, a ≤ p → p < q → q ≤ i → q ≠ j → T (atL l p) (atL l q)) → (∀ p, a ≤ p → p < j → atL l p < atL l j) →
    ∃ l', kBa (kHm P (a : Int)) ((some l : Sl Int), (j : Int)) = some (some l') ∧ Mv l l' a (i + 1) ∧ SrtT T l' a (i + 1)
  | j, l, a, i, h1, h2, h3, hl, hN, hs, hlt => by
    by_cases d : a < j
    · have w1 : wr ((j : Int) - 1) = ((j - 1 : Nat) : Int) := by rw [kBj (by omega) (by omega)]; omega
      have g1 := getT (l := l) (i := j) (by omega)
      have g2 := getT (l := l) (i := j - 1) (by omega)
      obtain ⟨b1, b2⟩ := hN.at (i := j) (by omega)
      obtain ⟨b3, b4⟩ := hN.at (i := j - 1) (by omega)
      obtain ⟨r, e1, e2⟩ := hP _ _ b1 b2 b3 b4
      have lt := hlt (j - 1) (by omega) (by omega)
      obtain ⟨ct, cf⟩ := hc _ _ lt
      have da : decide ((a : Int) < (j : Int)) = true := decide_eq_true (by omega)
      by_cases cc : c (atL l j) (atL l (j - 1)) = true
      · have g3 : kBp ((kC9 (some l) (j : Int) (atL l (j - 1))).getD []) ((j - 1 : Nat) : Int) = some (atL l (j - 1)) := by
          rw [kFc, Option.getD_some]
          refine kAv ?_
          rw [List.getElem?_set_ne (by omega), kDx (by omega)]
        have step : kHm P (a : Int) ((some l : Sl Int), (j : Int)) = some (.inl ((some (swL l j (j - 1)) : Sl Int), ((j - 1 : Nat) : Int))) := by
          unfold kHm
          simp only [da, cond_true, w1, g1, g2, kA2, e1, e2, cc, g3]
          rw [swT (kDx (by omega)) (kDx (by omega))]
        have m := swL_mv (l := l) (i := j) (j := j - 1) (a := a) (b := i + 1) (by omega) (by omega) (by omega)
        have va : ∀ p, p ≠ j → p ≠ j - 1 → atL (swL l j (j - 1)) p = atL l p := fun p k1 k2 => by
          refine kBl ?_
          rw [kGb (by omega) (by omega), if_neg k2, if_neg k1]
        have vb : atL (swL l j (j - 1)) j = atL l (j - 1) := by
          refine kBl ?_
          rw [kGb (by omega) (by omega), if_neg (by omega), if_pos rfl]
        have vc : atL (swL l j (j - 1)) (j - 1) = atL l j := by
          refine kBl ?_
          rw [kGb (by omega) (by omega), if_pos rfl]
        obtain ⟨l', k1, k2, k3⟩ := insert_ok hP tr hc (j - 1) (l := swL l j (j - 1)) (a := a) (i := i) (by omega) (by omega) (by rw [m.len]; exact h3) (by rw [m.len]; exact hl) (hN.perm m.perm)
          (fun p q p1 p2 p3 p4 => by
            by_cases c1 : q = j
            · subst c1
              rw [vb]
              by_cases c2 : p = q - 1
              · rw [c2, vc]
                exact ct cc
              · rw [va p (by omega) c2]
                exact hs p (q - 1) p1 (by omega) (by omega) (by omega)
            · rw [va q c1 p4]
              by_cases c2 : p = j
              · rw [c2, vb]
                exact hs (j - 1) q (by omega) (by omega) p3 c1
              · by_cases c3 : p = j - 1
                · rw [c3, vc]
                  exact hs j q (by omega) (by omega) p3 c1
                · rw [va p c2 c3]
                  exact hs p q p1 p2 p3 c1)
          (fun p p1 p2 => by
            rw [va p (by omega) (by omega), vc]
            exact hlt p p1 (by omega))
        exact ⟨l', (kBg step).trans k1, m.trans k2, k3⟩
      · have cc' : c (atL l j) (atL l (j - 1)) = false := by
          cases h : c (atL l j) (atL l (j - 1)) with
          | true => exact absurd h cc
          | false => rfl
        have step : kHm P (a : Int) ((some l : Sl Int), (j : Int)) = some (.inr (some l)) := by
          unfold kHm
          simp only [da, cond_true, w1, g1, g2, kA2, e1, e2, cc', cond_false]
        refine ⟨l, kB7 step, Mv.refl _ _ _, fun p q p1 p2 p3 => ?_⟩
        by_cases c1 : q = j
        · subst c1
          by_cases c2 : p = q - 1
          · rw [c2]
            exact cf cc'
          · exact tr _ _ _ (hs p (q - 1) p1 (by omega) (by omega) (by omega)) (cf cc')
        · exact hs p q p1 p2 (by omega) c1
    · have da : decide ((a : Int) < (j : Int)) = false := decide_eq_false (by omega)
      have step : kHm P (a : Int) ((some l : Sl Int), (j : Int)) = some (.inr (some l)) := by
        unfold kHm
        simp only [da, cond_false, kA2]
      exact ⟨l, kB7 step, Mv.refl _ _ _, fun p q p1 p2 p3 => hs p q p1 p2 (by omega) (by omega)⟩
  termination_by j => j
def RisL (l : List Int) (x y : Nat) : Prop := ∀ p q, x ≤ p → p < q → q < y → atL l p < atL l q
theorem RisL.out {l l' : List Int} {a b x y : Nat} (h : RisL l x y) (hm : Mv l l' a b) (ho : y ≤ a ∨ b ≤ x) : RisL l' x y := fun p q h1 h2 h3 => by
  rw [kBl (hm.out p (by omega)), kBl (hm.out q (by omega))]
  exact h p q h1 h2 h3
theorem insSort_ok {P : Int → Int → Option Int} {c : Int → Int → Bool} {n : Nat} (hP : OkP P c n) {T : Int → Int → Prop} (tr : ∀ x y z, T x y → T y z → T x z) (hc : StbOrd T c) {l : List Int} {a b : Nat} (ha : a ≤ l.length) (hb : b ≤ l.length) (hl : l.length ≤ 1000000) (hN : InN l n) (hr : RisL l a b) :
    ∃ l', t_q32 P (some l) (a : Int) (b : Int) = some (some l') ∧ Mv l l' a b ∧ SrtT T l' a b := by
  have key : ∀ (k : Nat) {l : List Int} {i : Nat}, b - i ≤ k → a < i → b ≤ l.length → l.length ≤ 1000000 → InN l n → SrtT T l a i → (∀ p q, a ≤ p → p < q → i ≤ q → q < b → atL l p < atL l q) →
      ∃ l', kBa (kFa P (a : Int) (b : Int)) ((some l : Sl Int), (i : Int)) = some (some l') ∧ Mv l l' a b ∧ SrtT T l' a b := fun k => by
    induction k with
    | zero =>
      intro l i hk h1 hb hl hN hs hr
      have d : decide ((i : Int) < (b : Int)) = false := decide_eq_false (by omega)
      have step : kFa P (a : Int) (b : Int) ((some l : Sl Int), (i : Int)) = some (.inr (some l)) := by
        unfold kFa
        simp only [d, cond_false]
      exact ⟨l, kB7 step, Mv.refl _ _ _, fun p q p1 p2 p3 => hs p q p1 p2 (by omega)⟩
    | succ k ih =>
      intro l i hk h1 hb hl hN hs hr
      by_cases c1 : i < b
      · have d : decide ((i : Int) < (b : Int)) = true := decide_eq_true (by omega)
        obtain ⟨l1, e1, m1, s1⟩ := insert_ok hP tr hc i (l := l) (a := a) (i := i) (by omega) (Nat.le_refl _) (by omega) hl hN (fun p q p1 p2 p3 p4 => hs p q p1 p2 (by omega)) (fun p p1 p2 => hr p i p1 p2 (Nat.le_refl _) c1)
        have w1 : wr ((i : Int) + 1) = ((i + 1 : Nat) : Int) := by rw [kBj (by omega) (by omega)]; omega
        have step : kFa P (a : Int) (b : Int) ((some l : Sl Int), (i : Int)) = some (.inl ((some l1 : Sl Int), ((i + 1 : Nat) : Int))) := by
          unfold kFa
          simp only [d, cond_true, e1, kA2, w1]
        obtain ⟨l2, e2, m2, s2⟩ := ih (l := l1) (i := i + 1) (by omega) (by omega) (by rw [m1.len]; exact hb) (by rw [m1.len]; exact hl) (hN.perm m1.perm) s1 (fun p q p1 p2 p3 p4 => by
          rw [kBl (m1.out q (by omega))]
          by_cases c2 : p < i + 1
          · obtain ⟨p', q1, q2, q3⟩ := m1.inn p p1 c2
            rw [kBl q3]
            exact hr p' q q1 (by omega) (by omega) p4
          · rw [kBl (m1.out p (by omega))]
            exact hr p q p1 p2 (by omega) p4)
        exact ⟨l2, (kBg step).trans e2, (m1.wide (Nat.le_refl _) (by omega)).trans m2, s2⟩
      · have d : decide ((i : Int) < (b : Int)) = false := decide_eq_false (by omega)
        have step : kFa P (a : Int) (b : Int) ((some l : Sl Int), (i : Int)) = some (.inr (some l)) := by
          unfold kFa
          simp only [d, cond_false]
        exact ⟨l, kB7 step, Mv.refl _ _ _, fun p q p1 p2 p3 => hs p q p1 p2 (by omega)⟩
  unfold t_q32
  by_cases ca : a < b
  · have w1 : wr ((a : Int) + 1) = ((a + 1 : Nat) : Int) := by rw [kBj (by omega) (by omega)]; omega
    obtain ⟨l', e, m, s⟩ := key (b - (a + 1)) (l := l) (i := a + 1) (Nat.le_refl _) (by omega) hb hl hN (fun p q p1 p2 p3 => by omega) (fun p q p1 p2 p3 p4 => hr p q p1 p2 p4)
    exact ⟨l', by rw [w1, e, kA2], m, s⟩
  · have d : decide (wr ((a : Int) + 1) < (b : Int)) = false := by
      rw [kBj (by omega) (by omega)]
      exact decide_eq_false (by omega)
    have step : kFa P (a : Int) (b : Int) ((some l : Sl Int), wr ((a : Int) + 1)) = some (.inr (some l)) := by
      unfold kFa
      simp only [d, cond_false]
    exact ⟨l, by rw [kB7 step, kA2], Mv.refl _ _ _, fun p q p1 p2 p3 => by omega⟩
def InbL (l : List Int) (x y : Nat) : Prop := ∀ p, x ≤ p → p < y → (x : Int) ≤ atL l p ∧ atL l p < (y : Int)
theorem InbL.mv {l l' : List Int} {x y : Nat} (h : InbL l x y) (m : Mv l l' x y) : InbL l' x y := fun p h1 h2 => by
  obtain ⟨q, q1, q2, q3⟩ := m.inn p h1 h2
  rw [kBl q3]
  exact h q q1 q2
theorem InbL.out {l l' : List Int} {a b x y : Nat} (h : InbL l x y) (hm : Mv l l' a b) (ho : y ≤ a ∨ b ≤ x) : InbL l' x y := fun p h1 h2 => by
  rw [kBl (hm.out p (by omega))]
  exact h p h1 h2
theorem InbL.join {l : List Int} {a m b : Nat} (h1 : InbL l a m) (h2 : InbL l m b) (k1 : a ≤ m) (k2 : m ≤ b) : InbL l a b := fun p p1 p2 => by
  by_cases c : p < m
  · obtain ⟨x, y⟩ := h1 p p1 c
    exact ⟨x, by omega⟩
  · obtain ⟨x, y⟩ := h2 p (by omega) p2
    exact ⟨by omega, y⟩
inductive ChopL (T : Int → Int → Prop) (l : List Int) (B n : Nat) : Nat → Prop
  | done {a : Nat} : n ≤ a → ChopL T l B n a
  | step {a : Nat} : a < n → SrtT T l a (min (a + B) n) → InbL l a (min (a + B) n) → ChopL T l B n (a + B) → ChopL T l B n a
theorem ChopL.mv {T : Int → Int → Prop} {l l' : List Int} {B n x y a : Nat} (h : ChopL T l B n a) (m : Mv l l' x y) (hy : y ≤ a) : ChopL T l' B n a := by
  induction h with
  | done h1 => exact .done h1
  | step h1 h2 h3 _ ih => exact .step h1 (h2.out m (.inr hy)) (h3.out m (.inr hy)) (ih (by omega))
theorem ChopL.at {T : Int → Int → Prop} {l : List Int} {B n a : Nat} (h : ChopL T l B n a) (ha : a < n) : SrtT T l a (min (a + B) n) ∧ InbL l a (min (a + B) n) ∧ ChopL T l B n (a + B) := by
  cases h with
  | done h1 => omega
  | step h1 h2 h3 h4 => exact ⟨h2, h3, h4⟩
theorem symMerge_srt {P : Int → Int → Option Int} {c : Int → Int → Bool} {n : Nat} (hP : OkP P c n) {T : Int → Int → Prop} (tr : ∀ x y z, T x y → T y z → T x z) (ir : ∀ x, ¬ T x x) (hc : StbOrd T c) {l : List Int} {a m b : Nat} (h1 : a < m) (h2 : m < b) (hb : b ≤ l.length) (hl : l.length ≤ 100000) (hN : InN l n)
    (s1 : SrtT T l a m) (s2 : SrtT T l m b) (i1 : InbL l a m) (i2 : InbL l m b) :
    ∃ l', kF0 P 100000 (some l) (a : Int) (m : Int) (b : Int) = some (some l') ∧ Mv l l' a b ∧ SrtT T l' a b ∧ InbL l' a b := by
  obtain ⟨m1, m2⟩ := symM_spec tr ir (c := c) 100000 (l := l) (a := a) (m := m) (b := b) (by omega) h1 h2 hb s1 s2 (fun p q p1 p2 p3 p4 => hc _ _ (by
    have := i1 p p1 p2
    have := i2 q p3 p4
    omega))
  exact ⟨_, kI0 hP 100000 (by omega) h1 h2 hb (by omega) hN, m1, m2, (i1.join i2 (by omega) (by omega)).mv m1⟩
theorem stbA {P : Int → Int → Option Int} {c : Int → Int → Bool} {n : Nat} (hP : OkP P c n) {T : Int → Int → Prop} (tr : ∀ x y z, T x y → T y z → T x z) (hc : StbOrd T c) : ∀ (k : Nat) {l : List Int} {a : Nat}, n - a ≤ k → a ≤ n → l.length = n → n ≤ 100000 → InN l n → (∀ p, a ≤ p → p < n → atL l p = (p : Int)) →
    ∃ l1 a1 l', kBa (kHh P (n : Int)) ((some l : Sl Int), (a : Int), ((a + 20 : Nat) : Int)) = some ((some l1 : Sl Int), a1) ∧ t_q32 P (some l1) a1 (n : Int) = some (some l') ∧ Mv l l' a n ∧ ChopL T l' 20 n a
  | k, l, a, hk, ha, hl, hn, hN, hid => by
    have ris : ∀ b, b ≤ n → RisL l a b := fun b hb p q p1 p2 p3 => by
      rw [hid p p1 (by omega), hid q (by omega) (by omega)]
      omega
    have inb : ∀ b, b ≤ n → InbL l a b := fun b hb p p1 p2 => by
      rw [hid p p1 (by omega)]
      omega
    by_cases d : a + 20 ≤ n
    · obtain ⟨l1, e1, m1, s1⟩ := insSort_ok hP tr hc (l := l) (a := a) (b := a + 20) (by omega) (by omega) (by omega) hN (ris _ d)
      have w1 : wr (((a + 20 : Nat) : Int) + 20) = ((a + 20 + 20 : Nat) : Int) := by rw [kBj (by omega) (by omega)]; omega
      have dd : decide (((a + 20 : Nat) : Int) ≤ (n : Int)) = true := decide_eq_true (by omega)
      have step : kHh P (n : Int) ((some l : Sl Int), (a : Int), ((a + 20 : Nat) : Int)) = some (.inl ((some l1 : Sl Int), ((a + 20 : Nat) : Int), ((a + 20 + 20 : Nat) : Int))) := by
        unfold kHh
        simp only [dd, cond_true, e1, kA2, w1]
      cases k with
      | zero => omega
      | succ k =>
        obtain ⟨l2, a2, l', g1, g2, g3, g4⟩ := stbA hP tr hc k (l := l1) (a := a + 20) (by omega) d (by rw [m1.len]; exact hl) hn (hN.perm m1.perm) (fun p p1 p2 => by rw [kBl (m1.out p (by omega))]; exact hid p (by omega) p2)
        have mm : min (a + 20) n = a + 20 := by omega
        refine ⟨l2, a2, l', (kBg step).trans g1, g2, (m1.wide (Nat.le_refl _) d).trans (g3.wide (by omega) (Nat.le_refl _)), .step (by omega) ?_ ?_ g4⟩
        · rw [mm]
          exact s1.out g3 (.inl (Nat.le_refl _))
        · rw [mm]
          exact ((inb _ d).mv m1).out g3 (.inl (Nat.le_refl _))
    · have dd : decide (((a + 20 : Nat) : Int) ≤ (n : Int)) = false := decide_eq_false (by omega)
      have step : kHh P (n : Int) ((some l : Sl Int), (a : Int), ((a + 20 : Nat) : Int)) = some (.inr ((some l : Sl Int), (a : Int))) := by
        unfold kHh
        simp only [dd, cond_false]
      obtain ⟨l1, e1, m1, s1⟩ := insSort_ok hP tr hc (l := l) (a := a) (b := n) (by omega) (by omega) (by omega) hN (ris _ (Nat.le_refl _))
      refine ⟨l, (a : Int), l1, kB7 step, e1, m1, ?_⟩
      by_cases e : a < n
      · have mm : min (a + 20) n = n := by omega
        exact .step e (by rw [mm]; exact s1) (by rw [mm]; exact (inb _ (Nat.le_refl _)).mv m1) (.done (by omega))
      · exact .done (by omega)
theorem stbM {P : Int → Int → Option Int} {c : Int → Int → Bool} {n : Nat} (hP : OkP P c n) {T : Int → Int → Prop} (tr : ∀ x y z, T x y → T y z → T x z) (ir : ∀ x, ¬ T x x) (hc : StbOrd T c) {B : Nat} (hB : 1 ≤ B) (hBn : B ≤ n) : ∀ (k : Nat) {l : List Int} {a : Nat}, n - a ≤ k → a ≤ n → l.length = n → n ≤ 100000 → InN l n → ChopL T l B n a →
    ∃ l1 a1 l', kBa (kIj P (n : Int) (B : Int)) ((some l : Sl Int), (a : Int), ((a + 2 * B : Nat) : Int)) = some ((some l1 : Sl Int), ((a1 : Nat) : Int)) ∧ a1 ≤ n ∧ (a1 + B < n → kF0 P 100000 (some l1) (a1 : Int) ((a1 + B : Nat) : Int) (n : Int) = some (some l')) ∧ (¬ a1 + B < n → l' = l1) ∧ Mv l l' a n ∧ ChopL T l' (B * 2) n a
  | k, l, a, hk, ha, hl, hn, hN, hch => by
    by_cases d : a + 2 * B ≤ n
    · obtain ⟨s1, i1, ch1⟩ := hch.at (by omega)
      obtain ⟨s2, i2, ch2⟩ := ch1.at (by omega)
      rw [show min (a + B) n = a + B by omega] at s1 i1
      rw [show min (a + B + B) n = a + 2 * B by omega] at s2 i2
      rw [show a + B + B = a + 2 * B by omega] at ch2
      obtain ⟨l1, e1, m1, t1, j1⟩ := symMerge_srt hP tr ir hc (l := l) (a := a) (m := a + B) (b := a + 2 * B) (by omega) (by omega) (by omega) (by omega) hN s1 s2 i1 i2
      have w0 : wr ((a : Int) + (B : Int)) = ((a + B : Nat) : Int) := by rw [kBj (by omega) (by omega)]; omega
      have w2 : wr (2 * (B : Int)) = ((2 * B : Nat) : Int) := by rw [kBj (by omega) (by omega)]; omega
      have w1 : wr (((a + 2 * B : Nat) : Int) + ((2 * B : Nat) : Int)) = ((a + 2 * B + 2 * B : Nat) : Int) := by rw [kBj (by omega) (by omega)]; omega
      have dd : decide (((a + 2 * B : Nat) : Int) ≤ (n : Int)) = true := decide_eq_true (by omega)
      have step : kIj P (n : Int) (B : Int) ((some l : Sl Int), (a : Int), ((a + 2 * B : Nat) : Int)) = some (.inl ((some l1 : Sl Int), ((a + 2 * B : Nat) : Int), ((a + 2 * B + 2 * B : Nat) : Int))) := by
        unfold kIj
        simp only [dd, cond_true, w0, e1, kA2, w2, w1]
      cases k with
      | zero => omega
      | succ k =>
        obtain ⟨l2, a2, l', g1, g2, g3, g4, g5, g6⟩ := stbM hP tr ir hc hB hBn k (l := l1) (a := a + 2 * B) (by omega) d (by rw [m1.len]; exact hl) hn (hN.perm m1.perm) (ch2.mv m1 (Nat.le_refl _))
        have mm : min (a + B * 2) n = a + 2 * B := by omega
        refine ⟨l2, a2, l', (kBg step).trans g1, g2, g3, g4, (m1.wide (Nat.le_refl _) d).trans (g5.wide (by omega) (Nat.le_refl _)), .step (by omega) ?_ ?_ ?_⟩
        · rw [mm]
          exact t1.out g5 (.inl (Nat.le_refl _))
        · rw [mm]
          exact j1.out g5 (.inl (Nat.le_refl _))
        · rw [show a + B * 2 = a + 2 * B by omega]
          exact g6
    · have dd : decide (((a + 2 * B : Nat) : Int) ≤ (n : Int)) = false := decide_eq_false (by omega)
      have step : kIj P (n : Int) (B : Int) ((some l : Sl Int), (a : Int), ((a + 2 * B : Nat) : Int)) = some (.inr ((some l : Sl Int), (a : Int))) := by
        unfold kIj
        simp only [dd, cond_false]
      by_cases e : a + B < n
      · obtain ⟨s1, i1, ch1⟩ := hch.at (by omega)
        obtain ⟨s2, i2, ch2⟩ := ch1.at (by omega)
        rw [show min (a + B) n = a + B by omega] at s1 i1
        rw [show min (a + B + B) n = n by omega] at s2 i2
        obtain ⟨l1, e1, m1, t1, j1⟩ := symMerge_srt hP tr ir hc (l := l) (a := a) (m := a + B) (b := n) (by omega) (by omega) (by omega) (by omega) hN s1 s2 i1 i2
        have mm : min (a + B * 2) n = n := by omega
        exact ⟨l, a, l1, kB7 step, ha, fun _ => e1, fun h => absurd e h, m1, .step (by omega) (by rw [mm]; exact t1) (by rw [mm]; exact j1) (.done (by omega))⟩
      · refine ⟨l, a, l, kB7 step, ha, fun h => absurd h e, fun _ => rfl, Mv.refl _ _ _, ?_⟩
        by_cases e2 : a < n
        · obtain ⟨s1, i1, ch1⟩ := hch.at (by omega)
          rw [show min (a + B) n = n by omega] at s1 i1
          have mm : min (a + B * 2) n = n := by omega
          exact .step e2 (by rw [mm]; exact s1) (by rw [mm]; exact i1) (.done (by omega))
        · exact .done (by omega)
theorem stbO {P : Int → Int → Option Int} {c : Int → Int → Bool} {n : Nat} (hP : OkP P c n) {T : Int → Int → Prop} (tr : ∀ x y z, T x y → T y z → T x z) (ir : ∀ x, ¬ T x x) (hc : StbOrd T c) : ∀ (k : Nat) {l : List Int} {B : Nat}, n - B ≤ k → 1 ≤ B → B ≤ 1000000 → l.length = n → n ≤ 100000 → InN l n → ChopL T l B n 0 →
    ∃ l', kBa (kHg P (n : Int)) ((some l : Sl Int), (B : Int)) = some (some l') ∧ Mv l l' 0 n ∧ SrtT T l' 0 n
  | k, l, B, hk, hB, hB2, hl, hn, hN, hch => by
    by_cases d : B < n
    · have dd : decide ((B : Int) < (n : Int)) = true := decide_eq_true (by omega)
      have w2 : wr (2 * (B : Int)) = ((0 + 2 * B : Nat) : Int) := by rw [kBj (by omega) (by omega)]; omega
      have w3 : wr ((B : Int) * 2) = ((B * 2 : Nat) : Int) := by rw [kBj (by omega) (by omega)]; omega
      obtain ⟨l1, a1, l', g1, g2, g3, g4, g5, g6⟩ := stbM hP tr ir hc hB (by omega) n (l := l) (a := 0) (by omega) (by omega) hl hn hN hch
      have w0 : wr ((a1 : Int) + (B : Int)) = ((a1 + B : Nat) : Int) := by rw [kBj (by omega) (by omega)]; omega
      have step : kHg P (n : Int) ((some l : Sl Int), (B : Int)) = some (.inl ((some l' : Sl Int), ((B * 2 : Nat) : Int))) := by
        unfold kHg
        simp only [dd, cond_true, w2, w3]
        have g1' : kBa (kIj P (n : Int) (B : Int)) ((some l : Sl Int), 0, ((0 + 2 * B : Nat) : Int)) = some ((some l1 : Sl Int), ((a1 : Nat) : Int)) := g1
        rw [g1', kA2]
        dsimp only
        rw [w0]
        by_cases e : a1 + B < n
        · rw [decide_eq_true (show ((a1 + B : Nat) : Int) < (n : Int) by omega), cond_true, g3 e, kA2]
        · rw [decide_eq_false (show ¬ ((a1 + B : Nat) : Int) < (n : Int) by omega), cond_false, g4 e]
      cases k with
      | zero => omega
      | succ k =>
        obtain ⟨l2, k1, k2, k3⟩ := stbO hP tr ir hc k (l := l') (B := B * 2) (by omega) (by omega) (by omega) (by rw [g5.len]; exact hl) hn (hN.perm g5.perm) g6
        exact ⟨l2, (kBg step).trans k1, g5.trans k2, k3⟩
    · have dd : decide ((B : Int) < (n : Int)) = false := decide_eq_false (by omega)
      have step : kHg P (n : Int) ((some l : Sl Int), (B : Int)) = some (.inr (some l)) := by
        unfold kHg
        simp only [dd, cond_false]
      refine ⟨l, kB7 step, Mv.refl _ _ _, ?_⟩
      by_cases e : 0 < n
      · obtain ⟨s1, _, _⟩ := hch.at e
        rw [show min (0 + B) n = n by omega] at s1
        exact s1
      · exact fun p q p1 p2 p3 => by omega
theorem stable_ok {P : Int → Int → Option Int} {c : Int → Int → Bool} {n : Nat} (hP : OkP P c n) {T : Int → Int → Prop} (tr : ∀ x y z, T x y → T y z → T x z) (ir : ∀ x, ¬ T x x) (hc : StbOrd T c) {l : List Int} (hl : l.length = n) (hn : n ≤ 100000) (hN : InN l n) (hid : ∀ p, p < n → atL l p = (p : Int)) :
    ∃ l', t_q31 P (some l) = some (some l') ∧ l'.Perm l ∧ SrtT T l' 0 n := by
  obtain ⟨l1, a1, l2, g1, g2, g3, g4⟩ := stbA hP tr hc n (l := l) (a := 0) (by omega) (by omega) hl hn hN (fun p _ p2 => hid p p2)
  obtain ⟨l', k1, k2, k3⟩ := stbO hP tr ir hc n (l := l2) (B := 20) (by omega) (by omega) (by omega) (by rw [g3.len]; exact hl) hn (hN.perm g3.perm) g4
  refine ⟨l', ?_, (g3.trans k2).perm, k3⟩
  unfold t_q31 t_q34
  rw [Option.getD_some, hl]
  have g1' : kBa (kHh P (n : Int)) ((some l : Sl Int), 0, 20) = some ((some l1 : Sl Int), a1) := g1
  have k1' : kBa (kHg P (n : Int)) ((some l2 : Sl Int), 20) = some (some l') := k1
  rw [g1', kA2]
  dsimp only
  rw [g2, kA2, k1', kA2, kA2]
theorem leftCF_tot (q : Sl Box) : TotC (kG0 q) (kC2 q) where
  irr x h1 h2 := by
    obtain ⟨n, rfl⟩ := Int.eq_ofNat_of_zero_le h1
    cases e : ltC (kC2 q) (n : Int) (n : Int) with
    | false => rfl
    | true => exact absurd ((kEv (by omega) (by omega)).1 e) (leftP_irr _ _)
  tr x y z h1 h2 g1 g2 k1 k2 e1 e2 := by
    obtain ⟨n, rfl⟩ := Int.eq_ofNat_of_zero_le h1
    obtain ⟨m, rfl⟩ := Int.eq_ofNat_of_zero_le g1
    obtain ⟨p, rfl⟩ := Int.eq_ofNat_of_zero_le k1
    exact (kEv (by omega) (by omega)).2 (leftP_tr ((kEv (by omega) (by omega)).1 e1) ((kEv (by omega) (by omega)).1 e2))
  tri x y h1 h2 g1 g2 := by
    obtain ⟨n, rfl⟩ := Int.eq_ofNat_of_zero_le h1
    obtain ⟨m, rfl⟩ := Int.eq_ofNat_of_zero_le g1
    rcases leftP_tri (l := q.getD []) (x := n) (y := m) (by unfold kG0 at h2; omega) (by unfold kG0 at g2; omega) with h | h | h
    · exact .inl ((kEv (by omega) (by omega)).2 h)
    · exact .inr (.inl (by omega))
    · exact .inr (.inr ((kEv (by omega) (by omega)).2 h))
def fLtr : List AV → Option AV := C3 (fun c : Int => enc c) tp_q10
theorem hcfLtr (q : Sl Box) (x y : Int) (h : kA4) (oc : Nat) (h1 : 0 ≤ x) (h2 : x < kG0 q) (h3 : 0 ≤ y) (h4 : y < kG0 q) (ho : h[oc]? = some ⟨1, [[Cod.enc q]]⟩) : ∃ ds, kBb (snap h depth) [iv x, iv y, .ptr oc 1 0 0] = some ds ∧ fLtr ds = some (iv (kC2 q x y)) := by
  have e : snap h depth (.ptr oc 1 0 0) = some (enc (⟨[q], 0⟩ : Pt (Sl Box))) := by
    show (match h[oc]? with | some ob => if ob.rows.length = 1 then (match kBb (kBb (snap h 7)) ob.rows with | some rows => some (AV.fptr ob.k rows 0 0) | none => none) else none | none => none) = _
    rw [ho]
    cases q <;> rfl
  refine ⟨[iv x, iv y, enc (⟨[q], 0⟩ : Pt (Sl Box))], ?_, ?_⟩
  · rw [kCh, kCh, kCh, e]
    rfl
  · obtain ⟨n, rfl⟩ := Int.eq_ofNat_of_zero_le h1
    obtain ⟨m, rfl⟩ := Int.eq_ofNat_of_zero_le h3
    obtain ⟨r, e1, _⟩ := left_ok (q := q) (x := n) (y := m) (by unfold kG0 at h2; omega) (by unfold kG0 at h4; omega)
    have e2 : tp_q10 (n : Int) (m : Int) ⟨[q], 0⟩ = some r := e1
    have e3 : kC2 q (n : Int) (m : Int) = r := by unfold kC2; rw [e1]; rfl
    unfold fLtr C3 R3
    show (kA0 (Cod.dec (iv (n : Int)) : Option Int) fun a0 => kA0 (Cod.dec (iv (m : Int)) : Option Int) fun a1 => kA0 (Cod.dec (enc (⟨[q], 0⟩ : Pt (Sl Box))) : Option (Pt (Sl Box))) fun a2 => kA0 (tp_q10 a0 a1 a2) fun c => some (enc c)) = _
    rw [show (Cod.dec (iv (n : Int)) : Option Int) = some (n : Int) from rfl, kA2, show (Cod.dec (iv (m : Int)) : Option Int) = some (m : Int) from rfl, kA2, Cod.de, kA2]
    rw [e2, e3]
    rfl
theorem kDy : GenOK Try.prog n_q30 (kG9 kG0 kFi kC2) :=
  gen_sortC hb_q30 hb_q10 tt_q10 leftCF_tot hcfLtr
    (fun m c h1 h2 cb blk off cap d w h3 h4 h5 h6 => Go.Proofs.Any.slices_SortFunc_total laySortF1 encIx (fun _ => rfl) c h1 kFi cb blk off cap d w (kD2 hb_q10) h3 h4 h5 h6 h2)
    (fun p cap fv w => Go.Proofs.AnyF.slices_SortFunc_none { laySortF1 with } p cap fv w)
theorem sim_ltr {γ δ : Type} {B : Base} {h : kA4} {L : List Ent} {Q : δ → γ → Prop} {env : Nat → Contract} (O : Hold B h L) (q : Sl Box) (he : env n_q9 = .pure (R1 fun q : Sl Box => some (.fn kFi [.np 1 [[Sl.enc q]] 0 0])))
    {F : AV → kA4 → Option γ} {Y : Option δ} (K : ∀ o h', h.length ≤ h'.length → Hold B h' (L ++ [pZ9 o 1 [Sl.enc q]]) → Sim (F (.fn kFi [AV.ptr o 1 0 0]) h') Y Q) : Sim (kA3 (kAx (env n_q9) [Sl.enc q] h) F) Y Q := by
  rw [he]
  show Sim (kA3 (kAb _ [Sl.enc q] h) F) Y Q
  have s0 : snapD h (Sl.enc q) = some q := (Tab.enc h q).snap
  rw [callR1, s0, kA2, kA2, hand_ltr q _ h (by simp [noRef_enc]), kBs]
  exact K h.length _ (by simp) (O.alloc (.pt 1 [Sl.enc q]) rfl)
theorem sim_stb {γ δ : Type} {B : Base} {h : kA4} {R : List Ent} {Q : δ → γ → Prop} {env : Nat → Contract} {x : AV} {o : Nat} {boxes : Sl Box} {d : Sl Int} (O : Hold B h ([(x, obS d), pZ9 o 1 [Sl.enc boxes]] ++ R)) (he : env kH8 = .gen (kAo Try.prog kHf kH8))
    {F : AV → kA4 → Option γ} {G : Sl Int → Option δ} (K : ∀ w h', Hold B h' ([(x, obS (w : Sl Int)), pZ9 o 1 [Sl.enc boxes]] ++ R) → Sim (F (.tup []) h') (G w) Q) :
    Sim (kA3 (kAx (env kH8) [x, AV.fn kDp [AV.ptr o 1 0 0]] h) F) (kA0 (t_q31 (fun a b => kEb a b boxes) d) G) Q := by
  refine kBx he (tg_q31 boxes d O.startL) (fun w r h' hq => ?_)
  obtain ⟨e, O'⟩ := hq
  dsimp only at e
  subst e
  exact K w h' (O.mergeL O')
def s2_q11 (boxes_ : Sl Box) (q33 : Sl Line) : ((Sl Line) × Int) → Option (Sum ((Sl Line) × Int) (Sl Line)) := fun (w40, w45) =>
  bif decide (w45 < (((q33.getD []).length : Nat) : Int)) then
    kA0 (kBp (w40.getD []) w45) fun a54 =>
    kA0 (sortCO kG0 kC2 boxes_ a54.items) fun w71 =>
    some (.inl ((kC9 w40 w45 (⟨a54.top, a54.bottom, w71⟩ : Line)), wr (w45 + 1)))
  else
    some (.inr w40)
def kHe (boxes_ : Sl Box) (gap_ : Int) (w18 : Sl Int) : ((Sl Line) × Int) → Option (Sum ((Sl Line) × Int) (Sl Line)) := fun (w24, w29) =>
  bif decide (w29 < (((w18.getD []).length : Nat) : Int)) then
    kA0 (kBp (w18.getD []) w29) fun a82 =>
    kA0 (kBp (boxes_.getD []) a82) fun a86 =>
    kA0 (bif decide ((wr ((((w24.getD []).length : Nat) : Int) - 1)) < 0) then some false else (kA0 (kBp (w24.getD []) (wr ((((w24.getD []).length : Nat) : Int) - 1))) fun a97 => some (decide ((wr (a97.bottom + gap_)) < a86.y1)))) fun c103 =>
    bif (bif decide ((wr ((((w24.getD []).length : Nat) : Int) - 1)) < 0) then true else c103) then
      kA0 (kF5 w24 ([(⟨a86.y1, a86.y2, (none : Sl Int)⟩ : Line)] : List Line)) fun _ =>
      kA0 (kBp ((kBn w24 ([(⟨a86.y1, a86.y2, (none : Sl Int)⟩ : Line)] : List Line)).getD []) (wr (((((kBn w24 ([(⟨a86.y1, a86.y2, (none : Sl Int)⟩ : Line)] : List Line)).getD []).length : Nat) : Int) - 1))) fun a128 =>
      kA0 (kF5 ((⟨a128.top, max a128.bottom a86.y2, a128.items⟩ : Line).items) ([a82] : List Int)) fun _ =>
      some (.inl ((kC9 (kC9 (kBn w24 ([(⟨a86.y1, a86.y2, (none : Sl Int)⟩ : Line)] : List Line)) (wr (((((kBn w24 ([(⟨a86.y1, a86.y2, (none : Sl Int)⟩ : Line)] : List Line)).getD []).length : Nat) : Int) - 1)) (⟨a128.top, max a128.bottom a86.y2, a128.items⟩ : Line)) (wr (((((kBn w24 ([(⟨a86.y1, a86.y2, (none : Sl Int)⟩ : Line)] : List Line)).getD []).length : Nat) : Int) - 1)) (⟨(⟨a128.top, max a128.bottom a86.y2, a128.items⟩ : Line).top, (⟨a128.top, max a128.bottom a86.y2, a128.items⟩ : Line).bottom, (kBn ((⟨a128.top, max a128.bottom a86.y2, a128.items⟩ : Line).items) ([a82] : List Int))⟩ : Line)), wr (w29 + 1)))
    else
      kA0 (kBp (w24.getD []) (wr ((((w24.getD []).length : Nat) : Int) - 1))) fun a154 =>
      kA0 (kF5 ((⟨a154.top, max a154.bottom a86.y2, a154.items⟩ : Line).items) ([a82] : List Int)) fun _ =>
      some (.inl ((kC9 (kC9 w24 (wr ((((w24.getD []).length : Nat) : Int) - 1)) (⟨a154.top, max a154.bottom a86.y2, a154.items⟩ : Line)) (wr ((((w24.getD []).length : Nat) : Int) - 1)) (⟨(⟨a154.top, max a154.bottom a86.y2, a154.items⟩ : Line).top, (⟨a154.top, max a154.bottom a86.y2, a154.items⟩ : Line).bottom, (kBn ((⟨a154.top, max a154.bottom a86.y2, a154.items⟩ : Line).items) ([a82] : List Int))⟩ : Line)), wr (w29 + 1)))
  else
    some (.inr w24)
def s0_q11 (boxes_ : Sl Box) : ((Sl Int) × Int) → Option (Sum ((Sl Int) × Int) (Sl Int)) := fun (w8, w11) =>
  bif decide (w11 < (((boxes_.getD []).length : Nat) : Int)) then
    kA0 (kF5 w8 ([w11] : List Int)) fun _ =>
    some (.inl ((kBn w8 ([w11] : List Int)), wr (w11 + 1)))
  else
    some (.inr w8)
def t_q11 (boxes_ : Sl Box) (gap_ : Int) : Option (Sl Line) :=
  kA0 (kBa (s0_q11 boxes_) ((none : Sl Int), 0)) fun q15 =>
  kA0 (t_q31 (fun a b => kEb a b boxes_) q15) fun w18 =>
  kA0 (kBa (kHe boxes_ gap_ w18) ((none : Sl Line), 0)) fun q33 =>
  kA0 (kBa (s2_q11 boxes_ q33) (q33, 0)) fun q48 =>
  some q48
theorem tl2_q11 (env : Nat → Contract) {B : Base} (he_q9 : env n_q9 = .pure (R1 fun q : Sl Box => some (.fn kFi [.np 1 [[Sl.enc q]] 0 0]))) (he_q30 : env n_q30 = .gen (kG9 kG0 kFi kC2)) (he_q31 : env kH8 = .gen (kAo Try.prog kHf kH8)) (boxes_ : Sl Box) (gap_ : Int) (o1 : Nat) (z14 : AV) (z16 : AV) (w18 : Sl Int) (z32 : AV) (q33 : Sl Line) (z36 : AV) (z37 : AV) (z38 : AV) (z39 : AV)  : kG7 (fun (st : (Sl Line) × Int) tm h43 => match st with | (w40, w45) => ∃ ps41 : PS Line, tm = ((Sl.enc boxes_) :: (iv gap_) :: (AV.ptr o1 1 0 0) :: und :: kBd :: z14 :: z16 :: z32 :: und :: z36 :: z37 :: z38 :: z39 :: und :: .top :: (Sl.enc boxes_) :: (iv (((boxes_.getD []).length : Nat) : Int)) :: .top :: .top :: .top :: .top :: .top :: .top :: .top :: .top :: z14 :: (AV.fn kDp [AV.ptr o1 1 0 0]) :: (AV.tup []) :: z14 :: (iv (((w18.getD []).length : Nat) : Int)) :: .top :: .top :: .top :: .top :: .top :: .top :: .top :: .top :: .top :: .top :: .top :: .top :: .top :: .top :: .top :: .top :: .top :: .top :: .top :: .top :: .top :: .top :: .top :: .top :: .top :: .top :: .top :: .top :: .top :: .top :: .top :: .top :: .top :: .top :: .top :: .top :: .top :: .top :: .top :: .top :: .top :: .top :: .top :: .top :: .top :: .top :: .top :: .top :: .top :: .top :: .top :: .top :: .top :: .top :: .top :: .top :: .top :: .top :: .top :: z32 :: (iv (((q33.getD []).length : Nat) : Int)) :: (iv w45) :: tZ9 9 [und]) ∧ pj ps41 = w40 ∧ Hold B h43 ([(z14, obS (w18 : Sl Int)), pZ9 o1 1 [Sl.enc boxes_]] ++ D2 (A := Line) z32 ps41)) hm2_q11 xm2_q11 (lb2_q11 env) (s2_q11 boxes_ q33) (fun (q : Sl Line) (r : Res) => match q with | q48 => ∃ (z51 : AV) (ps49 : PS Line) (h46 : kA4), r = (.exit 4, ((Sl.enc boxes_) :: (iv gap_) :: (AV.ptr o1 1 0 0) :: und :: kBd :: z14 :: z16 :: z32 :: und :: z36 :: z37 :: z38 :: z39 :: und :: z51 :: (Sl.enc boxes_) :: (iv (((boxes_.getD []).length : Nat) : Int)) :: .top :: .top :: .top :: .top :: .top :: .top :: .top :: .top :: z14 :: (AV.fn kDp [AV.ptr o1 1 0 0]) :: (AV.tup []) :: z14 :: (iv (((w18.getD []).length : Nat) : Int)) :: .top :: .top :: .top :: .top :: .top :: .top :: .top :: .top :: .top :: .top :: .top :: .top :: .top :: .top :: .top :: .top :: .top :: .top :: .top :: .top :: .top :: .top :: .top :: .top :: .top :: .top :: .top :: .top :: .top :: .top :: .top :: .top :: .top :: .top :: .top :: .top :: .top :: .top :: .top :: .top :: .top :: .top :: .top :: .top :: .top :: .top :: .top :: .top :: .top :: .top :: .top :: .top :: .top :: .top :: .top :: .top :: .top :: .top :: .top :: z32 :: (iv (((q33.getD []).length : Nat) : Int)) :: tZ9 10 [und]), h46) ∧ pj ps49 = q48 ∧ Hold B h46 ([(z14, obS (w18 : Sl Int)), pZ9 o1 1 [Sl.enc boxes_]] ++ D2 (A := Line) z32 ps49)) := by
  refine @kGi _ _ _ _ _ _ _ _ (fun st tm h43 R => ?_)
  obtain ⟨w40, w45⟩ := st
  obtain ⟨ps41, rfl, hp42, O44⟩ := R
  rw [e_lb2_q11]
  unfold s2_q11
  dsimp only
  refine kA1 (kAa _ _) ?_
  refine kA9 (fun c53 => ?_) (fun c53 => ?_)
  · refine kD4 (l := [(z14, obS (w18 : Sl Int)), pZ9 o1 1 [Sl.enc boxes_]]) (x := z32) (ps := ps41) (A := Line) O44 hp42 (fun m55 a54 x58 hi56 hm57 hg59 => ?_)
    refine kA1 (v := AV.agg [iv a54.top, iv a54.bottom, x58]) (D2.ld (l := [(z14, obS (w18 : Sl Int)), pZ9 o1 1 [Sl.enc boxes_]]) (x := z32) (ps := ps41) (A := Line) O44 hm57 true 3 0) ?_
    refine kGc O44 (cs := [iv 0, iv 0, kBd]) (by first | rfl | simp) (fun o60 h61 O62 => ?_)
    replace O62 : Hold B h61 ([(z14, obS (w18 : Sl Int)), pZ9 o1 1 [Sl.enc boxes_], pZ9 o60 3 [iv 0, iv 0, kBd]] ++ D2 (A := Line) z32 ps41) := Hold.rot O62
    have jZ0 := D2.one (l := [(z14, obS (w18 : Sl Int)), pZ9 o1 1 [Sl.enc boxes_], pZ9 o60 3 [iv 0, iv 0, kBd]]) (x := z32) (ps := ps41) (A := Line) O62 hm57
    refine kEz O62 2 (cs' := [iv a54.top, iv a54.bottom, x58]) rfl (by first | rfl | simp [jZ0.1, jZ0.2]) (by simp) (by first | rfl | simp [jZ0.1, jZ0.2]) (by first | rfl | simp [kBe, jZ0.1, jZ0.2]) (fun h64 O65 => ?_)
    replace O65 : Hold B h64 ([(z14, obS (w18 : Sl Int)), pZ9 o1 1 [Sl.enc boxes_], pZ9 o60 3 [iv a54.top, iv a54.bottom, x58]] ++ D2 (A := Line) z32 ps41) := O65
    refine kA1 (v := AV.ptr o60 1 0 2) rfl ?_
    refine kA1 (v := x58) (O65.ld 2 rfl false 1 2) ?_
    refine kA1 (v := Sl.enc boxes_) (O65.ld 1 rfl false 1 0) ?_
    refine kFe ⟨⟨(at_of (v := Sl.enc boxes_) (O65.ld 1 rfl false 1 0)), trivial⟩, trivial⟩ ?_
    refine sim_ltr O65 boxes_ he_q9 (fun o66 h67 hl68 O69 => ?_)
    replace O69 : Hold B h67 ([(z14, obS (w18 : Sl Int)), pZ9 o1 1 [Sl.enc boxes_], pZ9 o60 3 [iv a54.top, iv a54.bottom, x58], pZ9 o66 1 [Sl.enc boxes_]] ++ D2 (A := Line) z32 ps41) := Hold.rot O69
    refine kFe hl68 ?_
    refine kFe ⟨⟨(at_of (v := x58) (O65.ld 2 rfl false 1 2)), ⟨(at_of (v := x58) (O69.ld 2 rfl false 1 2)), trivial⟩⟩, trivial⟩ ?_
    refine sim_sortRow (a := a54) (q := boxes_) (l := [(z14, obS (w18 : Sl Int)), pZ9 o1 1 [Sl.enc boxes_], pZ9 o60 3 [iv a54.top, iv a54.bottom, x58], pZ9 o66 1 [Sl.enc boxes_]]) (x := z32) (ps := ps41) (A := Line) O69 hp42 hi56 hm57 3 rfl he_q30 (fun w71 => (⟨a54.top, a54.bottom, w71⟩ : Line)) (fun _ => rfl) (fun _ => by first | rfl | simp [Inn.row]) (fun w71 ps72 h73 hp74 hl75 O76 => ?_)
    refine kFe hl75 ?_
    refine kFe trivial ?_
    refine kA1 (kAi _ _) ?_
    have O77 : Hold B h73 ([(z14, obS (w18 : Sl Int)), pZ9 o1 1 [Sl.enc boxes_]] ++ D2 (A := Line) z32 ps72) := O76.selD [0, 1] (by decide) rfl
    exact kA6 ⟨rfl, _, rfl, hp74, O77⟩
  · exact kA6 ⟨nofun, _, _, _, rfl, hp42, O44⟩
theorem tl1_q11 (env : Nat → Contract) {B : Base} (he_q9 : env n_q9 = .pure (R1 fun q : Sl Box => some (.fn kFi [.np 1 [[Sl.enc q]] 0 0]))) (he_q30 : env n_q30 = .gen (kG9 kG0 kFi kC2)) (he_q31 : env kH8 = .gen (kAo Try.prog kHf kH8)) (boxes_ : Sl Box) (gap_ : Int) (o1 : Nat) (z14 : AV) (z16 : AV) (w18 : Sl Int)  : kG7 (fun (st : (Sl Line) × Int) tm h27 => match st with | (w24, w29) => ∃ z23, ∃ ps25 : PS Line, tm = ((Sl.enc boxes_) :: (iv gap_) :: (AV.ptr o1 1 0 0) :: und :: kBd :: z14 :: z16 :: z23 :: und :: tZ9 4 (und :: und :: (Sl.enc boxes_) :: (iv (((boxes_.getD []).length : Nat) : Int)) :: .top :: .top :: .top :: .top :: .top :: .top :: .top :: .top :: z14 :: (AV.fn kDp [AV.ptr o1 1 0 0]) :: (AV.tup []) :: z14 :: (iv (((w18.getD []).length : Nat) : Int)) :: (iv w29) :: tZ9 58 [und, und, und, und, und, und, und, und, und, und, und, und, und])) ∧ pj ps25 = w24 ∧ Hold B h27 ([(z14, obS (w18 : Sl Int)), pZ9 o1 1 [Sl.enc boxes_]] ++ D2 (A := Line) z23 ps25)) hm1_q11 xm1_q11 (lb1_q11 env) (kHe boxes_ gap_ w18) (fun (q : Sl Line) (r : Res) => match q with | q33 => ∃ (z32 : AV) (z36 : AV) (z37 : AV) (z38 : AV) (z39 : AV) (ps34 : PS Line) (h30 : kA4), r = (.exit 2, ((Sl.enc boxes_) :: (iv gap_) :: (AV.ptr o1 1 0 0) :: und :: kBd :: z14 :: z16 :: z32 :: und :: z36 :: z37 :: z38 :: z39 :: und :: und :: (Sl.enc boxes_) :: (iv (((boxes_.getD []).length : Nat) : Int)) :: .top :: .top :: .top :: .top :: .top :: .top :: .top :: .top :: z14 :: (AV.fn kDp [AV.ptr o1 1 0 0]) :: (AV.tup []) :: z14 :: (iv (((w18.getD []).length : Nat) : Int)) :: tZ9 59 [und, und, und, und, und, und, und, und, und, und, und, und, und]), h30) ∧ pj ps34 = q33 ∧ Hold B h30 ([(z14, obS (w18 : Sl Int)), pZ9 o1 1 [Sl.enc boxes_]] ++ D2 (A := Line) z32 ps34)) := by
  refine @kGi _ _ _ _ _ _ _ _ (fun st tm h27 R => ?_)
  obtain ⟨w24, w29⟩ := st
  obtain ⟨z23, ps25, rfl, hp26, O28⟩ := R
  rw [e_lb1_q11]
  unfold kHe
  dsimp only
  refine kA1 (kAa _ _) ?_
  refine kA9 (fun c81 => ?_) (fun c81 => ?_)
  · refine kAg (O28.tab (A := Int) (s := w18) 0 rfl) (fun m83 a82 hi84 hm85 => ?_)
    refine kA1 (v := iv a82) ((O28.tab (A := Int) (s := w18) 0 rfl).ld hm85 false 1 0) ?_
    refine kA1 (v := Sl.enc boxes_) (O28.ld 1 rfl false 1 0) ?_
    refine kAg (Tab.enc h27 boxes_) (fun m87 a86 hi88 hm89 => ?_)
    refine kA1 (v := AV.agg [iv a86.x1, iv a86.y1, iv a86.x2, iv a86.y2]) ((Tab.enc h27 boxes_).ld hm89 true 4 0) ?_
    refine kGc O28 (cs := [iv 0, iv 0, iv 0, iv 0]) (by first | rfl | simp) (fun o90 h91 O92 => ?_)
    replace O92 : Hold B h91 ([(z14, obS (w18 : Sl Int)), pZ9 o1 1 [Sl.enc boxes_], pZ9 o90 4 [iv 0, iv 0, iv 0, iv 0]] ++ D2 (A := Line) z23 ps25) := Hold.rot O92
    refine kEz O92 2 (cs' := [iv a86.x1, iv a86.y1, iv a86.x2, iv a86.y2]) rfl (by first | rfl | simp) (by simp) (by first | rfl | simp) (by first | rfl | simp [kBe]) (fun h94 O95 => ?_)
    replace O95 : Hold B h94 ([(z14, obS (w18 : Sl Int)), pZ9 o1 1 [Sl.enc boxes_], pZ9 o90 4 [iv a86.x1, iv a86.y1, iv a86.x2, iv a86.y2]] ++ D2 (A := Line) z23 ps25) := O95
    refine kA1 (D2.lenS (l := [(z14, obS (w18 : Sl Int)), pZ9 o1 1 [Sl.enc boxes_], pZ9 o90 4 [iv a86.x1, iv a86.y1, iv a86.x2, iv a86.y2]]) (x := z23) (ps := ps25) (A := Line) O95 hp26) ?_
    refine kA1 (kAp _ _) ?_
    refine kA1 (kAa _ _) ?_
    refine sim_g10F (e := bv) (fun hb96 => ?_) (fun y104 y105 y106 y107 y108 y109 y110 y111 y112 c103 => ?_)
    · refine kDt ?_
      refine kA1 (v := AV.ptr o90 1 0 1) rfl ?_
      refine kC1 ?_
      refine kDt ?_
      refine kA1 (v := iv a86.y1) (O95.ld 2 rfl false 1 1) ?_
      refine kC1 ?_
      refine kC1 ?_
      refine kC1 ?_
      refine kDt ?_
      refine kD4 (l := [(z14, obS (w18 : Sl Int)), pZ9 o1 1 [Sl.enc boxes_], pZ9 o90 4 [iv a86.x1, iv a86.y1, iv a86.x2, iv a86.y2]]) (x := z23) (ps := ps25) (A := Line) O95 hp26 (fun m98 a97 x101 hi99 hm100 hg102 => ?_)
      refine kC1 ?_
      refine kDt ?_
      refine kA1 (v := elp z23 m98 1) (D2.fld (l := [(z14, obS (w18 : Sl Int)), pZ9 o1 1 [Sl.enc boxes_], pZ9 o90 4 [iv a86.x1, iv a86.y1, iv a86.x2, iv a86.y2]]) (x := z23) (ps := ps25) (A := Line) O95 hm100 _ _) ?_
      refine kC1 ?_
      refine kDt ?_
      refine kA1 (v := iv a97.bottom) (D2.ld (l := [(z14, obS (w18 : Sl Int)), pZ9 o1 1 [Sl.enc boxes_], pZ9 o90 4 [iv a86.x1, iv a86.y1, iv a86.x2, iv a86.y2]]) (x := z23) (ps := ps25) (A := Line) O95 hm100 false 1 1) ?_
      refine kC1 ?_
      refine kC1 ?_
      refine kDt ?_
      refine kA1 (kAi _ _) ?_
      refine kC1 ?_
      refine kA1 (kE4 _ _) ?_
      exact kA6 rfl
    · refine kA1 (v := bv (bif decide ((wr ((((w24.getD []).length : Nat) : Int) - 1)) < 0) then true else c103)) (kF7 _ _ _) ?_
      refine kA9 (fun c113 => ?_) (fun c113 => ?_)
      · refine kA1 (v := AV.ptr o90 1 0 1) rfl ?_
        refine kA1 (v := iv a86.y1) (O95.ld 2 rfl false 1 1) ?_
        refine kA1 (v := AV.ptr o90 1 0 3) rfl ?_
        refine kA1 (v := iv a86.y2) (O95.ld 2 rfl false 1 3) ?_
        refine kA1 (v := AV.agg [iv a86.y1, iv a86.y2, kBd]) (by first | rfl | simp [kIf, aFill, kBe]) ?_
        have O114 : Hold B h94 ([(z14, obS (w18 : Sl Int)), pZ9 o1 1 [Sl.enc boxes_], pZ9 o90 4 [iv a86.x1, iv a86.y1, iv a86.x2, iv a86.y2], (kBd, obS ((none : Sl Int) : Sl Int))] ++ D2 (A := Line) z23 ps25) := Hold.rot O95.addnil
        have jZ0 := O114.one (A := Int) (s := (none : Sl Int)) 3 rfl
        refine kCn O114 [[iv a86.y1, iv a86.y2, kBd]] 3 rfl (by first | rfl | simp [kB9, kCy, jZ0.1, jZ0.2]) rfl (fun x116 h117 O118 => ?_)
        replace O118 : Hold B h117 ([(z14, obS (w18 : Sl Int)), pZ9 o1 1 [Sl.enc boxes_], pZ9 o90 4 [iv a86.x1, iv a86.y1, iv a86.x2, iv a86.y2], (kBd, obS ((none : Sl Int) : Sl Int)), (x116, .sl 3 [[iv a86.y1, iv a86.y2, kBd]])] ++ D2 (A := Line) z23 ps25) := Hold.rot O118
        have O120 : Hold B h117 ([(z14, obS (w18 : Sl Int)), pZ9 o1 1 [Sl.enc boxes_], pZ9 o90 4 [iv a86.x1, iv a86.y1, iv a86.x2, iv a86.y2], (kBd, obS ((none : Sl Int) : Sl Int)), (x116, .sl 3 [[iv a86.y1, iv a86.y2, kBd]])] ++ D2 (A := Line) z23 ps25) := O118.selD [0, 1, 2, 3, 4] (by decide) rfl
        refine sim_push (l := [(z14, obS (w18 : Sl Int)), pZ9 o1 1 [Sl.enc boxes_], pZ9 o90 4 [iv a86.x1, iv a86.y1, iv a86.x2, iv a86.y2]]) (a := (⟨a86.y1, a86.y2, (none : Sl Int)⟩ : Line)) (y := kBd) (x := z23) (ps := ps25) O120 hp26 (by decide) (fun x121 ps124 h122 hp125 hm126 O123 => ?_)
        refine kA1 (D2.lenS (l := [(z14, obS (w18 : Sl Int)), pZ9 o1 1 [Sl.enc boxes_], pZ9 o90 4 [iv a86.x1, iv a86.y1, iv a86.x2, iv a86.y2]]) (x := x121) (ps := ps124) (A := Line) O123 hp125) ?_
        refine kA1 (kAp _ _) ?_
        refine kD4 (l := [(z14, obS (w18 : Sl Int)), pZ9 o1 1 [Sl.enc boxes_], pZ9 o90 4 [iv a86.x1, iv a86.y1, iv a86.x2, iv a86.y2]]) (x := x121) (ps := ps124) (A := Line) O123 hp125 (fun m129 a128 x132 hi130 hm131 hg133 => ?_)
        refine kA1 (v := elp x121 m129 0) (nc_elp _ _ _) ?_
        refine kA1 (v := elp x121 m129 1) (D2.fld (l := [(z14, obS (w18 : Sl Int)), pZ9 o1 1 [Sl.enc boxes_], pZ9 o90 4 [iv a86.x1, iv a86.y1, iv a86.x2, iv a86.y2]]) (x := x121) (ps := ps124) (A := Line) O123 hm131 _ _) ?_
        refine kA1 (v := iv a128.bottom) (D2.ld (l := [(z14, obS (w18 : Sl Int)), pZ9 o1 1 [Sl.enc boxes_], pZ9 o90 4 [iv a86.x1, iv a86.y1, iv a86.x2, iv a86.y2]]) (x := x121) (ps := ps124) (A := Line) O123 hm131 false 1 1) ?_
        refine kA1 (v := AV.ptr o90 1 0 3) rfl ?_
        refine kA1 (v := iv a86.y2) (O123.ld 2 rfl false 1 3) ?_
        refine kA1 (v := iv (max a128.bottom a86.y2)) (kGa _ _) ?_
        refine kA1 (v := elp x121 m129 0) (nc_elp _ _ _) ?_
        refine kA1 (v := elp x121 m129 1) (D2.fld (l := [(z14, obS (w18 : Sl Int)), pZ9 o1 1 [Sl.enc boxes_], pZ9 o90 4 [iv a86.x1, iv a86.y1, iv a86.x2, iv a86.y2]]) (x := x121) (ps := ps124) (A := Line) O123 hm131 _ _) ?_
        refine sim_setCell (a := a128) (a' := (⟨a128.top, max a128.bottom a86.y2, a128.items⟩ : Line)) (l := [(z14, obS (w18 : Sl Int)), pZ9 o1 1 [Sl.enc boxes_], pZ9 o90 4 [iv a86.x1, iv a86.y1, iv a86.x2, iv a86.y2]]) (x := x121) (ps := ps124) (A := Line) O123 hp125 hi130 hm131 rfl rfl (by first | exact Nat.le_of_ble_eq_true rfl | simp) rfl (by first | rfl | simp [kBe, Inn.row]) (fun ps136 h134 hp137 hm138 O135 => ?_)
        refine kA1 (v := elp x121 m129 0) (nc_elp _ _ _) ?_
        refine kA1 (v := elp x121 m129 2) (D2.fld (l := [(z14, obS (w18 : Sl Int)), pZ9 o1 1 [Sl.enc boxes_], pZ9 o90 4 [iv a86.x1, iv a86.y1, iv a86.x2, iv a86.y2]]) (x := x121) (ps := ps136) (A := Line) O135 hm138 _ _) ?_
        refine kA1 (v := x132) (D2.ld (l := [(z14, obS (w18 : Sl Int)), pZ9 o1 1 [Sl.enc boxes_], pZ9 o90 4 [iv a86.x1, iv a86.y1, iv a86.x2, iv a86.y2]]) (x := x121) (ps := ps136) (A := Line) O135 hm138 false 1 2) ?_
        refine kBu (A := Int) O135 ([a82] : List Int) rfl (by first | rfl | simp [kB9, kCy]) rfl (fun x139 h140 O141 => ?_)
        replace O141 : Hold B h140 ([(z14, obS (w18 : Sl Int)), pZ9 o1 1 [Sl.enc boxes_], pZ9 o90 4 [iv a86.x1, iv a86.y1, iv a86.x2, iv a86.y2], (x139, obS ((some ([a82] : List Int)) : Sl Int))] ++ D2 (A := Line) x121 ps136) := Hold.rot O141
        refine sim_appF (bytes := 8) (C := Int) (a := (⟨a128.top, max a128.bottom a86.y2, a128.items⟩ : Line)) (l := [(z14, obS (w18 : Sl Int)), pZ9 o1 1 [Sl.enc boxes_], pZ9 o90 4 [iv a86.x1, iv a86.y1, iv a86.x2, iv a86.y2], (x139, obS ((some ([a82] : List Int)) : Sl Int))]) (x := x121) (ps := ps136) (A := Line) O141 hp137 hi130 hm138 ([a82] : List Int) (O141.src (A := Int) (s := (some ([a82] : List Int))) 3 rfl) (by decide) (⟨(⟨a128.top, max a128.bottom a86.y2, a128.items⟩ : Line).top, (⟨a128.top, max a128.bottom a86.y2, a128.items⟩ : Line).bottom, (kBn ((⟨a128.top, max a128.bottom a86.y2, a128.items⟩ : Line).items) ([a82] : List Int))⟩ : Line) (by first | exact Nat.le_of_ble_eq_true rfl | simp) (by first | rfl | simp) (fun _ => by first | rfl | simp [kBe, Inn.row]) (fun v151 v152 v153 ps147 h145 hp148 O146 => ?_)
        replace O146 : Hold B h145 ([(z14, obS (w18 : Sl Int)), pZ9 o1 1 [Sl.enc boxes_], pZ9 o90 4 [iv a86.x1, iv a86.y1, iv a86.x2, iv a86.y2], (x139, obS ((some ([a82] : List Int)) : Sl Int))] ++ D2 (A := Line) x121 ps147) := O146
        have O149 : Hold B h145 ([(z14, obS (w18 : Sl Int)), pZ9 o1 1 [Sl.enc boxes_], pZ9 o90 4 [iv a86.x1, iv a86.y1, iv a86.x2, iv a86.y2]] ++ D2 (A := Line) x121 ps147) := O146.selD [0, 1, 2] (by decide) rfl
        refine kA1 (kAi _ _) ?_
        have O150 : Hold B h145 ([(z14, obS (w18 : Sl Int)), pZ9 o1 1 [Sl.enc boxes_]] ++ D2 (A := Line) x121 ps147) := O149.selD [0, 1] (by decide) rfl
        exact kA6 ⟨rfl, _, _, rfl, hp148, O150⟩
      · refine kA1 (D2.lenS (l := [(z14, obS (w18 : Sl Int)), pZ9 o1 1 [Sl.enc boxes_], pZ9 o90 4 [iv a86.x1, iv a86.y1, iv a86.x2, iv a86.y2]]) (x := z23) (ps := ps25) (A := Line) O95 hp26) ?_
        refine kA1 (kAp _ _) ?_
        refine kD4 (l := [(z14, obS (w18 : Sl Int)), pZ9 o1 1 [Sl.enc boxes_], pZ9 o90 4 [iv a86.x1, iv a86.y1, iv a86.x2, iv a86.y2]]) (x := z23) (ps := ps25) (A := Line) O95 hp26 (fun m155 a154 x158 hi156 hm157 hg159 => ?_)
        refine kA1 (v := elp z23 m155 0) (nc_elp _ _ _) ?_
        refine kA1 (v := elp z23 m155 1) (D2.fld (l := [(z14, obS (w18 : Sl Int)), pZ9 o1 1 [Sl.enc boxes_], pZ9 o90 4 [iv a86.x1, iv a86.y1, iv a86.x2, iv a86.y2]]) (x := z23) (ps := ps25) (A := Line) O95 hm157 _ _) ?_
        refine kA1 (v := iv a154.bottom) (D2.ld (l := [(z14, obS (w18 : Sl Int)), pZ9 o1 1 [Sl.enc boxes_], pZ9 o90 4 [iv a86.x1, iv a86.y1, iv a86.x2, iv a86.y2]]) (x := z23) (ps := ps25) (A := Line) O95 hm157 false 1 1) ?_
        refine kA1 (v := AV.ptr o90 1 0 3) rfl ?_
        refine kA1 (v := iv a86.y2) (O95.ld 2 rfl false 1 3) ?_
        refine kA1 (v := iv (max a154.bottom a86.y2)) (kGa _ _) ?_
        refine kA1 (v := elp z23 m155 0) (nc_elp _ _ _) ?_
        refine kA1 (v := elp z23 m155 1) (D2.fld (l := [(z14, obS (w18 : Sl Int)), pZ9 o1 1 [Sl.enc boxes_], pZ9 o90 4 [iv a86.x1, iv a86.y1, iv a86.x2, iv a86.y2]]) (x := z23) (ps := ps25) (A := Line) O95 hm157 _ _) ?_
        refine sim_setCell (a := a154) (a' := (⟨a154.top, max a154.bottom a86.y2, a154.items⟩ : Line)) (l := [(z14, obS (w18 : Sl Int)), pZ9 o1 1 [Sl.enc boxes_], pZ9 o90 4 [iv a86.x1, iv a86.y1, iv a86.x2, iv a86.y2]]) (x := z23) (ps := ps25) (A := Line) O95 hp26 hi156 hm157 rfl rfl (by first | exact Nat.le_of_ble_eq_true rfl | simp) rfl (by first | rfl | simp [kBe, Inn.row]) (fun ps162 h160 hp163 hm164 O161 => ?_)
        refine kA1 (v := elp z23 m155 0) (nc_elp _ _ _) ?_
        refine kA1 (v := elp z23 m155 2) (D2.fld (l := [(z14, obS (w18 : Sl Int)), pZ9 o1 1 [Sl.enc boxes_], pZ9 o90 4 [iv a86.x1, iv a86.y1, iv a86.x2, iv a86.y2]]) (x := z23) (ps := ps162) (A := Line) O161 hm164 _ _) ?_
        refine kA1 (v := x158) (D2.ld (l := [(z14, obS (w18 : Sl Int)), pZ9 o1 1 [Sl.enc boxes_], pZ9 o90 4 [iv a86.x1, iv a86.y1, iv a86.x2, iv a86.y2]]) (x := z23) (ps := ps162) (A := Line) O161 hm164 false 1 2) ?_
        refine kBu (A := Int) O161 ([a82] : List Int) rfl (by first | rfl | simp [kB9, kCy]) rfl (fun x165 h166 O167 => ?_)
        replace O167 : Hold B h166 ([(z14, obS (w18 : Sl Int)), pZ9 o1 1 [Sl.enc boxes_], pZ9 o90 4 [iv a86.x1, iv a86.y1, iv a86.x2, iv a86.y2], (x165, obS ((some ([a82] : List Int)) : Sl Int))] ++ D2 (A := Line) z23 ps162) := Hold.rot O167
        refine sim_appF (bytes := 8) (C := Int) (a := (⟨a154.top, max a154.bottom a86.y2, a154.items⟩ : Line)) (l := [(z14, obS (w18 : Sl Int)), pZ9 o1 1 [Sl.enc boxes_], pZ9 o90 4 [iv a86.x1, iv a86.y1, iv a86.x2, iv a86.y2], (x165, obS ((some ([a82] : List Int)) : Sl Int))]) (x := z23) (ps := ps162) (A := Line) O167 hp163 hi156 hm164 ([a82] : List Int) (O167.src (A := Int) (s := (some ([a82] : List Int))) 3 rfl) (by decide) (⟨(⟨a154.top, max a154.bottom a86.y2, a154.items⟩ : Line).top, (⟨a154.top, max a154.bottom a86.y2, a154.items⟩ : Line).bottom, (kBn ((⟨a154.top, max a154.bottom a86.y2, a154.items⟩ : Line).items) ([a82] : List Int))⟩ : Line) (by first | exact Nat.le_of_ble_eq_true rfl | simp) (by first | rfl | simp) (fun _ => by first | rfl | simp [kBe, Inn.row]) (fun v177 v178 v179 ps173 h171 hp174 O172 => ?_)
        replace O172 : Hold B h171 ([(z14, obS (w18 : Sl Int)), pZ9 o1 1 [Sl.enc boxes_], pZ9 o90 4 [iv a86.x1, iv a86.y1, iv a86.x2, iv a86.y2], (x165, obS ((some ([a82] : List Int)) : Sl Int))] ++ D2 (A := Line) z23 ps173) := O172
        have O175 : Hold B h171 ([(z14, obS (w18 : Sl Int)), pZ9 o1 1 [Sl.enc boxes_], pZ9 o90 4 [iv a86.x1, iv a86.y1, iv a86.x2, iv a86.y2]] ++ D2 (A := Line) z23 ps173) := O172.selD [0, 1, 2] (by decide) rfl
        refine kA1 (kAi _ _) ?_
        have O176 : Hold B h171 ([(z14, obS (w18 : Sl Int)), pZ9 o1 1 [Sl.enc boxes_]] ++ D2 (A := Line) z23 ps173) := O175.selD [0, 1] (by decide) rfl
        exact kA6 ⟨rfl, _, _, rfl, hp174, O176⟩
  · exact kA6 ⟨nofun, _, _, _, _, _, _, _, rfl, hp26, O28⟩
theorem tl0_q11 (env : Nat → Contract) {B : Base} (he_q9 : env n_q9 = .pure (R1 fun q : Sl Box => some (.fn kFi [.np 1 [[Sl.enc q]] 0 0]))) (he_q30 : env n_q30 = .gen (kG9 kG0 kFi kC2)) (he_q31 : env kH8 = .gen (kAo Try.prog kHf kH8)) (boxes_ : Sl Box) (gap_ : Int) (o1 : Nat)  : kG7 (fun (st : (Sl Int) × Int) tm h9 => match st with | (w8, w11) => ∃ z7, tm = ((Sl.enc boxes_) :: (iv gap_) :: (AV.ptr o1 1 0 0) :: und :: kBd :: z7 :: .top :: und :: und :: und :: und :: und :: und :: und :: und :: (Sl.enc boxes_) :: (iv (((boxes_.getD []).length : Nat) : Int)) :: (iv w11) :: tZ9 7 [und, und, und, und, und, und, und, und, und, und, und, und, und, und, und, und, und, und, und, und, und, und, und, und, und, und, und, und, und, und, und, und, und, und, und, und, und, und, und, und, und, und, und, und, und, und, und, und, und, und, und, und, und, und, und, und, und, und, und, und, und, und, und, und, und, und, und, und, und, und, und, und, und, und, und, und, und]) ∧ Hold B h9 [pZ9 o1 1 [Sl.enc boxes_], (z7, obS (w8 : Sl Int))]) hm0_q11 xm0_q11 (lb0_q11 env) (s0_q11 boxes_) (fun (q : Sl Int) (r : Res) => match q with | q15 => ∃ (z14 : AV) (z16 : AV) (h12 : kA4), r = (.exit 0, ((Sl.enc boxes_) :: (iv gap_) :: (AV.ptr o1 1 0 0) :: und :: kBd :: z14 :: z16 :: und :: und :: und :: und :: und :: und :: und :: und :: (Sl.enc boxes_) :: (iv (((boxes_.getD []).length : Nat) : Int)) :: tZ9 8 [und, und, und, und, und, und, und, und, und, und, und, und, und, und, und, und, und, und, und, und, und, und, und, und, und, und, und, und, und, und, und, und, und, und, und, und, und, und, und, und, und, und, und, und, und, und, und, und, und, und, und, und, und, und, und, und, und, und, und, und, und, und, und, und, und, und, und, und, und, und, und, und, und, und, und, und, und]), h12) ∧ Hold B h12 [pZ9 o1 1 [Sl.enc boxes_], (z14, obS (q15 : Sl Int))]) := by
  refine @kGi _ _ _ _ _ _ _ _ (fun st tm h9 R => ?_)
  obtain ⟨w8, w11⟩ := st
  obtain ⟨z7, rfl, O10⟩ := R
  rw [e_lb0_q11]
  unfold s0_q11
  dsimp only
  refine kA1 (kAa _ _) ?_
  refine kA9 (fun c183 => ?_) (fun c183 => ?_)
  · refine kBu (A := Int) O10 ([w11] : List Int) rfl (by first | rfl | simp [kB9, kCy]) rfl (fun x184 h185 O186 => ?_)
    replace O186 : Hold B h185 [pZ9 o1 1 [Sl.enc boxes_], (z7, obS (w8 : Sl Int)), (x184, obS ((some ([w11] : List Int)) : Sl Int))] := O186
    refine kEm (A := Int) (s := w8) O186 1 ([w11] : List Int) rfl (O186.src (A := Int) (s := (some ([w11] : List Int))) 2 rfl) (by decide) (fun x189 h190 O191 => ?_)
    replace O191 : Hold B h190 [pZ9 o1 1 [Sl.enc boxes_], (x189, obS ((kBn w8 ([w11] : List Int)) : Sl Int)), (x184, obS ((some ([w11] : List Int)) : Sl Int))] := O191
    have O193 : Hold B h190 [pZ9 o1 1 [Sl.enc boxes_], (x189, obS ((kBn w8 ([w11] : List Int)) : Sl Int))] := O191.sel [0, 1] (by decide) rfl
    refine kA1 (kAi _ _) ?_
    exact kA6 ⟨rfl, _, rfl, O193⟩
  · exact kA6 ⟨nofun, _, _, _, rfl, O10⟩
theorem ts_q11 (env : Nat → Contract) (he_q9 : env n_q9 = .pure (R1 fun q : Sl Box => some (.fn kFi [.np 1 [[Sl.enc q]] 0 0]))) (he_q30 : env n_q30 = .gen (kG9 kG0 kFi kC2)) (he_q31 : env kH8 = .gen (kAo Try.prog kHf kH8)) (boxes_ : Sl Box) (gap_ : Int) : Sim (denFnM true Try.prog env n_q11 [Sl.enc boxes_, iv gap_] []) (t_q11 boxes_ gap_) fun c p => release p.2 depth p.1 = some ((fun c : (Sl Line) => rD c) c) := by
  have O := Hold.nil []
  generalize hB : (⟨[], []⟩ : Base) = B at O
  clear hB
  rw [e_q11]
  unfold t_q11
  rw [cells_slenc]
  refine kGc O (cs := [Sl.enc boxes_]) (by first | rfl | simp) (fun o1 h2 O3 => ?_)
  replace O3 : Hold B h2 [pZ9 o1 1 [Sl.enc boxes_]] := O3
  refine kA1 (v := Sl.enc boxes_) (O3.ld 0 rfl false 1 0) ?_
  refine kA1 (Tab.enc h2 boxes_).len ?_
  have O5 : Hold B h2 [pZ9 o1 1 [Sl.enc boxes_], (kBd, obS ((none : Sl Int) : Sl Int))] := O3.addnil
  refine kB2 ((tl0_q11 env he_q9 he_q30 he_q31 boxes_ gap_ o1) ⟨_, rfl, O5⟩) (fun qq197 r hq => ?_)
  revert hq
  revert qq197
  intro q15 hq
  obtain ⟨z14, z16, h12, rfl, O13⟩ := hq
  rw [e_lk0x0_q11]
  have O17 : Hold B h12 [(z14, obS (q15 : Sl Int)), pZ9 o1 1 [Sl.enc boxes_]] := O13.sel [1, 0] (by decide) rfl
  refine sim_stb (R := []) (boxes := boxes_) (d := q15) O17 he_q31 (fun w18 h19 O20 => ?_)
  replace O20 : Hold B h19 [(z14, obS (w18 : Sl Int)), pZ9 o1 1 [Sl.enc boxes_]] := O20
  refine kA1 (v := iv (((w18.getD []).length : Nat) : Int)) (O20.tab (A := Int) (s := w18) 0 rfl).len ?_
  have O21 : Hold B h19 ([(z14, obS (w18 : Sl Int)), pZ9 o1 1 [Sl.enc boxes_]] ++ D2 (A := Line) kBd (none : PS Line)) := O20.addnil
  refine kB2 ((tl1_q11 env he_q9 he_q30 he_q31 boxes_ gap_ o1 z14 z16 w18) ⟨_, _, rfl, (rfl : pj (none : PS Line) = (none : Sl Line)), O21⟩) (fun qq182 r hq => ?_)
  revert hq
  revert qq182
  intro q33 hq
  obtain ⟨z32, z36, z37, z38, z39, ps34, h30, rfl, hp35, O31⟩ := hq
  rw [e_lk1x2_q11]
  refine kA1 (D2.lenS (l := [(z14, obS (w18 : Sl Int)), pZ9 o1 1 [Sl.enc boxes_]]) (x := z32) (ps := ps34) (A := Line) O31 hp35) ?_
  refine kB2 ((tl2_q11 env he_q9 he_q30 he_q31 boxes_ gap_ o1 z14 z16 w18 z32 q33 z36 z37 z38 z39) ⟨_, rfl, hp35, O31⟩) (fun qq80 r hq => ?_)
  revert hq
  revert qq80
  intro q48 hq
  obtain ⟨z51, ps49, h46, rfl, hp50, O47⟩ := hq
  rw [e_lk2x4_q11]
  have O52 : Hold B h46 ([] ++ D2 (A := Line) z32 ps49) := O47.selD [] (by decide) rfl
  exact kA6 (kEp (by simp only [ids_tup, kH4, ids_agg, ids_iv, ids_bv, ids_sv, ids_bt, kGv, ids_enc, D2.ids8 (l := []) (x := z32) (ps := ps49) (A := Line) O52, List.map_append, List.map_nil, List.flatMap_cons, List.flatMap_nil, List.append_nil, List.nil_append]; simpa only [List.flatMap_cons, List.flatMap_nil, List.append_nil, List.nil_append] using O52.nd2) (by simp only [rel_tup, kGu, kHp, rel_iv, rel_bv, rel_sv, rel_bt, kGz, rel_enc, D2.rel8 (l := []) (x := z32) (ps := ps49) (A := Line) O52 hp50, omapc, omapn, kA2] <;> rfl))
theorem tt_q11 : kAs Try.prog n_q11 (C2 (fun c : (Sl Line) => rD c) t_q11) := pureCW2 (kC3 ok_q9 (kGg kDy (kGg (kD3 kDa mixed hb_q31) E0))) mixed hb_q11 fun boxes_ gap_ => ts_q11 _ (by simp [kCa]) (by simp [kCa]) (by simp [kCa]) boxes_ gap_
def kHs (l : List Box) (x y : Int) : Prop := leftP l x.toNat y.toNat
def highP (l : List Box) (x y : Nat) : Prop := ∃ a b, l[x]? = some a ∧ l[y]? = some b ∧ (a.y1 < b.y1 ∨ a.y1 = b.y1 ∧ x < y)
def kG6 (l : List Box) (x y : Int) : Prop := highP l x.toNat y.toNat
theorem leftT_tr {l : List Box} {x y z : Int} (h : kHs l x y) (g : kHs l y z) : kHs l x z := leftP_tr h g
theorem leftT_irr {l : List Box} (x : Int) : ¬ kHs l x x := leftP_irr _ _
theorem highT_irr {l : List Box} (x : Int) : ¬ kG6 l x x := fun ⟨a, b, h1, h2, h3⟩ => by
  rw [h1] at h2
  cases h2
  omega
theorem highT_tr {l : List Box} {x y z : Int} (h : kG6 l x y) (g : kG6 l y z) : kG6 l x z := by
  obtain ⟨a, b, h1, h2, h3⟩ := h
  obtain ⟨b', c, g1, g2, g3⟩ := g
  rw [h2] at g1
  cases g1
  exact ⟨a, c, h1, g2, by omega⟩
def InL (n : Nat) (x : Int) : Prop := 0 ≤ x ∧ x < (n : Int)
theorem leftT_tri {l : List Box} {x y : Int} (hx : InL l.length x) (hy : InL l.length y) : kHs l x y ∨ x = y ∨ kHs l y x := by
  obtain ⟨n, rfl⟩ := Int.eq_ofNat_of_zero_le hx.1
  obtain ⟨m, rfl⟩ := Int.eq_ofNat_of_zero_le hy.1
  rcases leftP_tri (l := l) (x := n) (y := m) (by have := hx.2; omega) (by have := hy.2; omega) with h | h | h
  · exact .inl h
  · exact .inr (.inl (by omega))
  · exact .inr (.inr h)
theorem highT_tri {l : List Box} {x y : Int} (hx : InL l.length x) (hy : InL l.length y) : kG6 l x y ∨ x = y ∨ kG6 l y x := by
  obtain ⟨n, rfl⟩ := Int.eq_ofNat_of_zero_le hx.1
  obtain ⟨m, rfl⟩ := Int.eq_ofNat_of_zero_le hy.1
  have k1 : n < l.length := by have := hx.2; omega
  have k2 : m < l.length := by have := hy.2; omega
  have e1 : l[n]? = some l[n] := List.getElem?_eq_getElem k1
  have e2 : l[m]? = some l[m] := List.getElem?_eq_getElem k2
  generalize l[n] = a at e1
  generalize l[m] = b at e2
  by_cases c1 : a.y1 < b.y1 ∨ a.y1 = b.y1 ∧ n < m
  · exact .inl ⟨a, b, e1, e2, c1⟩
  · by_cases c2 : n = m
    · exact .inr (.inl (by omega))
    · exact .inr (.inr ⟨b, a, e2, e1, by omega⟩)
theorem specLeft_ok {q : Sl Box} {x y : Int} (hx : InL (q.getD []).length x) (hy : InL (q.getD []).length y) : ∃ c, t_q46 q x y = some c ∧ (c = true ↔ kHs (q.getD []) x y) := by
  obtain ⟨n, rfl⟩ := Int.eq_ofNat_of_zero_le hx.1
  obtain ⟨m, rfl⟩ := Int.eq_ofNat_of_zero_le hy.1
  have k1 : n < (q.getD []).length := by have := hx.2; omega
  have k2 : m < (q.getD []).length := by have := hy.2; omega
  have e1 : (q.getD [])[n]? = some (q.getD [])[n] := List.getElem?_eq_getElem k1
  have e2 : (q.getD [])[m]? = some (q.getD [])[m] := List.getElem?_eq_getElem k2
  unfold kHs leftP
  rw [Int.toNat_natCast, Int.toNat_natCast]
  generalize (q.getD [])[n] = a at e1
  generalize (q.getD [])[m] = b at e2
  have hP : (∃ a' b', (q.getD [])[n]? = some a' ∧ (q.getD [])[m]? = some b' ∧ (a'.x1 < b'.x1 ∨ a'.x1 = b'.x1 ∧ (a'.x2 < b'.x2 ∨ a'.x2 = b'.x2 ∧ n < m))) ↔ (a.x1 < b.x1 ∨ a.x1 = b.x1 ∧ (a.x2 < b.x2 ∨ a.x2 = b.x2 ∧ n < m)) := by
    constructor
    · rintro ⟨a', b', h1, h2, h3⟩
      rw [e1] at h1
      rw [e2] at h2
      cases h1
      cases h2
      exact h3
    · exact fun h => ⟨a, b, e1, e2, h⟩
  rw [hP]
  unfold t_q46
  rw [kAv e1, kA2, kAv e2, kA2]
  by_cases c1 : a.x1 = b.x1
  · by_cases c2 : a.x2 = b.x2
    · exact ⟨decide ((n : Int) < (m : Int)), by simp [c1, c2], by rw [decide_eq_true_eq]; omega⟩
    · exact ⟨decide (a.x2 < b.x2), by simp [c1, c2], by rw [decide_eq_true_eq]; omega⟩
  · exact ⟨decide (a.x1 < b.x1), by simp [c1], by rw [decide_eq_true_eq]; omega⟩
theorem specHigh_ok {q : Sl Box} {x y : Int} (hx : InL (q.getD []).length x) (hy : InL (q.getD []).length y) : ∃ c, t_q45 q x y = some c ∧ (c = true ↔ kG6 (q.getD []) x y) := by
  obtain ⟨n, rfl⟩ := Int.eq_ofNat_of_zero_le hx.1
  obtain ⟨m, rfl⟩ := Int.eq_ofNat_of_zero_le hy.1
  have k1 : n < (q.getD []).length := by have := hx.2; omega
  have k2 : m < (q.getD []).length := by have := hy.2; omega
  have e1 : (q.getD [])[n]? = some (q.getD [])[n] := List.getElem?_eq_getElem k1
  have e2 : (q.getD [])[m]? = some (q.getD [])[m] := List.getElem?_eq_getElem k2
  unfold kG6 highP
  rw [Int.toNat_natCast, Int.toNat_natCast]
  generalize (q.getD [])[n] = a at e1
  generalize (q.getD [])[m] = b at e2
  have hP : (∃ a' b', (q.getD [])[n]? = some a' ∧ (q.getD [])[m]? = some b' ∧ (a'.y1 < b'.y1 ∨ a'.y1 = b'.y1 ∧ n < m)) ↔ (a.y1 < b.y1 ∨ a.y1 = b.y1 ∧ n < m) := by
    constructor
    · rintro ⟨a', b', h1, h2, h3⟩
      rw [e1] at h1
      rw [e2] at h2
      cases h1
      cases h2
      exact h3
    · exact fun h => ⟨a, b, e1, e2, h⟩
  rw [hP]
  unfold t_q45
  rw [kAv e1, kA2, kAv e2, kA2]
  by_cases c1 : a.y1 = b.y1
  · exact ⟨decide ((n : Int) < (m : Int)), by simp [c1], by rw [decide_eq_true_eq]; omega⟩
  · exact ⟨decide (a.y1 < b.y1), by simp [c1], by rw [decide_eq_true_eq]; omega⟩
def ordT (l : List Box) (high : Bool) (x y : Int) : Prop := if high = true then kG6 l x y else kHs l x y
theorem ordT_tr {l : List Box} {high : Bool} {x y z : Int} (h : ordT l high x y) (g : ordT l high y z) : ordT l high x z := by
  unfold ordT at *
  cases high
  · exact leftT_tr h g
  · exact highT_tr h g
theorem ordT_tri {l : List Box} {high : Bool} {x y : Int} (hx : InL l.length x) (hy : InL l.length y) : ordT l high x y ∨ x = y ∨ ordT l high y x := by
  unfold ordT
  cases high
  · exact leftT_tri hx hy
  · exact highT_tri hx hy
theorem putO_ok {q : Sl Box} {W : List Int} {k : Int} {high : Bool} (hW : W.Pairwise (ordT (q.getD []) high)) (hi : ∀ x ∈ W, InL (q.getD []).length x) (hk : InL (q.getD []).length k) (hn : k ∉ W) (hl : W.length ≤ 1000) :
    ∃ r, t_q48 q (some W) k high = some (some r) ∧ r.Pairwise (ordT (q.getD []) high) ∧ r.Perm (k :: W) := by
  have key : ∀ (t : Nat), t ≤ W.length → (∀ x ∈ W.drop t, ordT (q.getD []) high k x) → ∃ p : Nat, kBa (s0_q48 q (some W) k high) ((t : Nat) : Int) = some ((p : Nat) : Int) ∧ p ≤ W.length ∧ (∀ x ∈ W.drop p, ordT (q.getD []) high k x) ∧ ∀ x ∈ W.take p, ordT (q.getD []) high x k := fun t => by
    induction t with
    | zero =>
      intro _ hd
      refine ⟨0, kB7 ?_, by omega, hd, by simp⟩
      unfold s0_q48
      have d : decide ((0 : Int) < ((0 : Nat) : Int)) = false := decide_eq_false (by omega)
      rw [d, cond_false]
    | succ t ih =>
      intro ht hd
      have hxt : W[t]? = some W[t] := List.getElem?_eq_getElem (by omega)
      generalize hv : W[t] = v at hxt
      have hvm : v ∈ W := List.mem_of_getElem? hxt
      obtain ⟨c1, f1, f2⟩ := specLeft_ok hk (hi v hvm)
      obtain ⟨c2, g1, g2⟩ := specHigh_ok hk (hi v hvm)
      have w1 : wr (((t + 1 : Nat) : Int) - 1) = ((t : Nat) : Int) := by rw [kBj (by omega) (by omega)]; omega
      have d : decide ((0 : Int) < ((t + 1 : Nat) : Int)) = true := decide_eq_true (by omega)
      have hdr : W.drop t = v :: W.drop (t + 1) := by rw [List.drop_eq_getElem_cons (by omega), hv]
      obtain ⟨c, hc, hc2⟩ : ∃ c, s0_q48 q (some W) k high ((t + 1 : Nat) : Int) = (bif !c then some (.inr ((t + 1 : Nat) : Int)) else some (.inl ((t : Nat) : Int))) ∧ (c = true ↔ ordT (q.getD []) high k v) := by
        unfold s0_q48 ordT
        simp only [d, cond_true, w1, Option.getD_some, kAv hxt, kA2, f1, g1]
        cases high
        · exact ⟨c1, rfl, f2⟩
        · exact ⟨c2, rfl, g2⟩
      cases c with
      | true =>
        obtain ⟨p, p1, p2⟩ := ih (by omega) (fun x hx => by
          rw [hdr] at hx
          rcases List.mem_cons.1 hx with rfl | hx
          · exact hc2.1 rfl
          · exact hd x hx)
        exact ⟨p, (kBg hc).trans p1, p2⟩
      | false =>
        refine ⟨t + 1, kB7 hc, ht, hd, fun x hx => ?_⟩
        have hvk : ordT (q.getD []) high v k := by
          rcases ordT_tri (high := high) hk (hi v hvm) with h | h | h
          · have := hc2.2 h
            cases this
          · subst h
            exact absurd hvm hn
          · exact h
        rw [List.take_add_one, hxt] at hx
        rcases List.mem_append.1 hx with hx | hx
        · obtain ⟨i, hi1, hi2⟩ := List.getElem_of_mem hx
          have hi3 : i < t := by simp at hi1; omega
          have : W[i]? = some x := by
            rw [List.getElem_take] at hi2
            rw [List.getElem?_eq_getElem (by omega), hi2]
          have hp := List.pairwise_iff_getElem.1 hW i t (by omega) (by omega) hi3
          have e : W[i] = x := by rw [List.getElem?_eq_getElem (by omega)] at this; exact Option.some.inj this
          rw [e, hv] at hp
          exact ordT_tr hp hvk
        · simp at hx
          subst hx
          exact hvk
  obtain ⟨p, e1, h1, h2, h3⟩ := key W.length (Nat.le_refl _) (by simp)
  have o1 := own_ints (W.take p) (by simp; omega)
  have a1 : kF5 (some (W.take p)) [k] = some (some (W.take p ++ [k])) := by
    rw [kIq _ _ (by simp; omega)]
    rfl
  have a2 : kF5 (some (W.take p ++ [k])) (W.drop p) = some (some (W.take p ++ [k] ++ W.drop p)) := by
    rw [kDb (by simp; omega)]
    rfl
  have a3 : kBn (some (W.take p)) [k] = some (W.take p ++ [k]) := rfl
  have a4 : kBn (some (W.take p ++ [k])) (W.drop p) = some (W.take p ++ [k] ++ W.drop p) := rfl
  refine ⟨W.take p ++ [k] ++ W.drop p, ?_, ?_, perm_ins⟩
  · unfold t_q48
    simp only [Option.getD_some, e1, kA2, subS_to h1, subS_from h1, o1, a1, a2, a3, a4]
  · have hW' : (W.take p ++ W.drop p).Pairwise (ordT (q.getD []) high) := by rw [List.take_append_drop]; exact hW
    rw [List.pairwise_append] at hW'
    obtain ⟨x1, x2, x3⟩ := hW'
    rw [List.append_assoc, List.pairwise_append]
    refine ⟨x1, ?_, fun a ha b hb => ?_⟩
    · rw [List.singleton_append, List.pairwise_cons]
      exact ⟨h2, x2⟩
    · rw [List.singleton_append] at hb
      rcases List.mem_cons.1 hb with rfl | hb
      · exact h3 a ha
      · exact x3 a ha b hb
theorem uniqT {T : Int → Int → Prop} (ir : ∀ x, ¬ T x x) (tr : ∀ x y z, T x y → T y z → T x z) : ∀ {l1 l2 : List Int}, l1.Pairwise T → l2.Pairwise T → l1.Perm l2 → l1 = l2
  | [], l2, _, _, h => (List.Perm.nil_eq h)
  | a :: t, [], _, _, h => by simpa using h.length_eq
  | a :: t, b :: t2, h1, h2, h => by
    rw [List.pairwise_cons] at h1 h2
    have e : a = b := by
      have ha : a ∈ b :: t2 := h.mem_iff.1 List.mem_cons_self
      have hb : b ∈ a :: t := h.mem_iff.2 List.mem_cons_self
      rcases List.mem_cons.1 ha with e | ha
      · exact e
      · rcases List.mem_cons.1 hb with e | hb
        · exact e.symm
        · exact absurd (tr _ _ _ (h1.1 b hb) (h2.1 a ha)) (ir a)
    subst e
    rw [uniqT ir tr h1.2 h2.2 ((List.perm_cons a).1 h)]
def idsL (n : Nat) : List Int := (List.range n).map Int.ofNat
theorem kH6 (n : Nat) : (idsL n).length = n := by simp [idsL]
theorem idsL_succ (n : Nat) : idsL (n + 1) = idsL n ++ [(n : Int)] := by
  unfold idsL
  rw [List.range_succ, List.map_append]
  rfl
theorem kH3 {n : Nat} {x : Int} (h : x ∈ idsL n) : InL n x := by
  unfold idsL at h
  obtain ⟨k, hk, rfl⟩ := List.mem_map.1 h
  rw [List.mem_range] at hk
  exact ⟨by simp, by simpa using hk⟩
theorem idsL_at {n p : Nat} (h : p < n) : atL (idsL n) p = (p : Int) := by
  unfold atL idsL
  rw [List.getElem?_map, List.getElem?_range h]
  rfl
theorem InL.mono {n m : Nat} {x : Int} (h : InL n x) (hm : n ≤ m) : InL m x := ⟨h.1, by have := h.2; omega⟩
theorem specOrd_both {B : List Box} (hn : B.length ≤ 60) : ∃ O, kBa (s0_q47 (some B)) ((some ([] : List Int)), 0) = some (some O) ∧ O.Pairwise (kG6 B) ∧ O.Perm (idsL B.length) := by
  obtain ⟨r, e, h⟩ := kEl (step := s0_q47 (some B)) (fun k s => ∃ W, s = (some W, (k : Int)) ∧ W.Pairwise (kG6 B) ∧ W.Perm (idsL k)) B.length
    (fun r => ∃ O, r = some O ∧ O.Pairwise (kG6 B) ∧ O.Perm (idsL B.length))
    (fun k s hk ⟨W, hs, h1, h2⟩ => by
      subst hs
      have c : decide ((k : Int) < ((B.length : Nat) : Int)) = true := decide_eq_true (by omega)
      have hlen : W.length = k := by rw [h2.length_eq, kH6]
      obtain ⟨r, p1, p2, p3⟩ := putO_ok (q := some B) (W := W) (k := (k : Int)) (high := true) h1 (fun x hx => (kH3 (h2.mem_iff.1 hx)).mono (by simp; omega)) ⟨by omega, by simp; omega⟩ (fun hx => by have := (kH3 (h2.mem_iff.1 hx)).2; omega) (by omega)
      refine .inl ⟨(some r, ((k + 1 : Nat) : Int)), ?_, r, rfl, p2, ?_⟩
      · unfold s0_q47
        simp only [Option.getD_some, c, cond_true, p1, kA2, kC7 hk (show B.length ≤ 4294967296 by omega)]
      · rw [idsL_succ]
        exact p3.trans ((h2.cons _).trans (List.perm_append_singleton _ _).symm))
    (fun s ⟨W, hs, h1, h2⟩ => by
      subst hs
      refine ⟨some W, ?_, W, rfl, h1, h2⟩
      unfold s0_q47
      simp only [Option.getD_some, Int.lt_irrefl, decide_false, cond_false])
    (s := ((some ([] : List Int)), 0)) ⟨[], rfl, List.Pairwise.nil, List.Perm.refl _⟩
  obtain ⟨O, rfl, h⟩ := h
  exact ⟨O, e, h⟩
def topB (l : List Box) (x : Int) : Int := ((l[x.toNat]?).map fun b => b.y1).getD 0
def cHigh (l : List Box) (x y : Int) : Bool := decide (topB l x < topB l y)
def tHigh (l : List Box) (x y : Int) : Prop := topB l x < topB l y ∨ topB l x = topB l y ∧ x < y
theorem stb_high (l : List Box) : StbOrd (tHigh l) (cHigh l) := fun u v h => by
  unfold cHigh tHigh
  refine ⟨fun h2 => .inl (of_decide_eq_true h2), fun h2 => ?_⟩
  have := of_decide_eq_false h2
  omega
theorem okP_high (B : List Box) : OkP (fun a b => kEb a b (some B)) (cHigh B) B.length := fun u v h1 h2 h3 h4 => by
  obtain ⟨n, rfl⟩ := Int.eq_ofNat_of_zero_le h1
  obtain ⟨m, rfl⟩ := Int.eq_ofNat_of_zero_le h3
  have e1 : B[n]? = some B[n] := List.getElem?_eq_getElem (by omega)
  have e2 : B[m]? = some B[m] := List.getElem?_eq_getElem (by omega)
  generalize B[n] = a at e1
  generalize B[m] = b at e2
  refine ⟨cmpI a.y1 b.y1, ?_, ?_⟩
  · show kEb _ _ _ = _
    unfold kEb
    rw [Option.getD_some, kAv e1, kA2, kAv e2, kA2, kA2]
  · unfold cHigh topB cmpI
    rw [Int.toNat_natCast, Int.toNat_natCast, e1, e2]
    simp only [Option.map_some, Option.getD_some]
    by_cases c1 : a.y1 < b.y1
    · simp [c1]
    · by_cases c2 : b.y1 < a.y1 <;> simp [c1, c2]
theorem tHigh_high {B : List Box} {x y : Int} (hx : InL B.length x) (hy : InL B.length y) (h : tHigh B x y) : kG6 B x y := by
  obtain ⟨n, rfl⟩ := Int.eq_ofNat_of_zero_le hx.1
  obtain ⟨m, rfl⟩ := Int.eq_ofNat_of_zero_le hy.1
  have k1 : n < B.length := by have := hx.2; omega
  have k2 : m < B.length := by have := hy.2; omega
  have e1 : B[n]? = some B[n] := List.getElem?_eq_getElem k1
  have e2 : B[m]? = some B[m] := List.getElem?_eq_getElem k2
  unfold tHigh topB at h
  unfold kG6
  rw [Int.toNat_natCast, Int.toNat_natCast] at *
  refine ⟨_, _, e1, e2, ?_⟩
  rw [e1, e2] at h
  simp only [Option.map_some, Option.getD_some] at h
  omega
theorem implIds {B : List Box} (hn : B.length ≤ 60) : ∃ q, kBa (s0_q11 (some B)) ((none : Sl Int), 0) = some q ∧ (q = none ∧ B.length = 0 ∨ q = some (idsL B.length)) := by
  obtain ⟨r, e, h⟩ := kEl (step := s0_q11 (some B)) (fun k s => s.2 = (k : Int) ∧ (s.1 = none ∧ k = 0 ∨ s.1 = some (idsL k))) B.length
    (fun q => q = none ∧ B.length = 0 ∨ q = some (idsL B.length))
    (fun k ⟨w, i⟩ hk ⟨h1, h2⟩ => by
      simp only at h1 h2
      subst h1
      have c : decide ((k : Int) < ((B.length : Nat) : Int)) = true := decide_eq_true (by omega)
      have hw : w.getD [] = idsL k := by
        rcases h2 with ⟨rfl, rfl⟩ | rfl
        · rfl
        · rfl
      have a : kF5 w [(k : Int)] = some (some (idsL k ++ [(k : Int)])) := by rw [kIq _ _ (by rw [hw, kH6]; omega), hw]
      have a2 : kBn w [(k : Int)] = some (idsL k ++ [(k : Int)]) := by
        rcases h2 with ⟨rfl, rfl⟩ | rfl
        · rfl
        · rfl
      refine .inl ⟨(some (idsL (k + 1)), ((k + 1 : Nat) : Int)), ?_, rfl, .inr rfl⟩
      unfold s0_q11
      simp only [Option.getD_some, c, cond_true, a, kA2, a2, kC7 hk (show B.length ≤ 4294967296 by omega), idsL_succ])
    (fun ⟨w, i⟩ ⟨h1, h2⟩ => by
      simp only at h1 h2
      subst h1
      refine ⟨w, ?_, h2⟩
      unfold s0_q11
      simp only [Option.getD_some, Int.lt_irrefl, decide_false, cond_false])
    (s := ((none : Sl Int), 0)) ⟨rfl, .inl ⟨rfl, rfl⟩⟩
  exact ⟨r, e, h⟩
theorem stable_none (P : Int → Int → Option Int) : t_q31 P none = some none := by
  have w1 : wr ((0 : Int) + 1) = 1 := kBj (by omega) (by omega)
  have e1 : kBa (kHh P (0 : Int)) ((none : Sl Int), 0, 20) = some ((none : Sl Int), 0) := kB7 rfl
  have e2 : kBa (kFa P (0 : Int) (0 : Int)) ((none : Sl Int), 1) = some (none : Sl Int) := kB7 rfl
  have e3 : kBa (kHg P (0 : Int)) ((none : Sl Int), 20) = some (none : Sl Int) := kB7 rfl
  unfold t_q31 t_q34
  rw [show ((((none : Sl Int).getD []).length : Nat) : Int) = 0 from rfl, e1, kA2]
  dsimp only
  unfold t_q32
  rw [w1, e2, kA2, kA2, e3, kA2, kA2]
theorem orders_both {B : List Box} (hn : B.length ≤ 60) : ∃ (O : List Int) (q w : Sl Int), kBa (s0_q47 (some B)) ((some ([] : List Int)), 0) = some (some O) ∧ kBa (s0_q11 (some B)) ((none : Sl Int), 0) = some q ∧ t_q31 (fun a b => kEb a b (some B)) q = some w ∧ w.getD [] = O ∧ O.Pairwise (kG6 B) ∧ O.Perm (idsL B.length) := by
  obtain ⟨O, e1, h1, h2⟩ := specOrd_both hn
  obtain ⟨q, e2, h3⟩ := implIds hn
  rcases h3 with ⟨rfl, h3⟩ | rfl
  · rw [h3] at h2
    have hO : O = [] := List.length_eq_zero_iff.1 (by rw [h2.length_eq, kH6])
    exact ⟨O, none, none, e1, e2, stable_none _, hO.symm, h1, by rw [h3]; exact h2⟩
  · obtain ⟨l', k1, k2, k3⟩ := stable_ok (okP_high B) (T := tHigh B) (fun x y z a b => by unfold tHigh at *; omega) (fun x a => by unfold tHigh at a; omega) (stb_high B) (l := idsL B.length) (kH6 _) (by omega) (fun x hx => kH3 hx) (fun p hp => idsL_at hp)
    have hl : l'.length = B.length := by rw [k2.length_eq, kH6]
    have hp : l'.Pairwise (kG6 B) := by
      rw [List.pairwise_iff_getElem]
      intro i j hi hj hij
      have g : ∀ (i : Nat) (hi : i < l'.length), atL l' i = l'[i] := fun i hi => by
        unfold atL
        rw [List.getElem?_eq_getElem hi]
        rfl
      have h := k3 i j (by omega) hij (by omega)
      rw [g i hi, g j hj] at h
      exact tHigh_high (kH3 (k2.mem_iff.1 (List.getElem_mem _))) (kH3 (k2.mem_iff.1 (List.getElem_mem _))) h
    have e : l' = O := uniqT highT_irr (fun x y z => highT_tr) hp h1 (k2.trans h2.symm)
    exact ⟨O, _, some l', e1, e2, k1, e, h1, h2⟩
def LineR (B : List Box) (D : List Int) (k : Nat) (p : Line × Line) : Prop := p.1.top = p.2.top ∧ p.1.bottom = p.2.bottom ∧ ∃ W, p.1.items = some W ∧ W.Pairwise (kHs B) ∧ W.Perm (p.2.items.getD []) ∧ (∀ x ∈ W, x ∈ D) ∧ W.length ≤ k
def LinesR (B : List Box) (O : List Int) (k : Nat) (s t : Sl Line) : Prop := ∃ P : List (Line × Line), s.getD [] = P.map Prod.fst ∧ t.getD [] = P.map Prod.snd ∧ P.length ≤ k ∧ ∀ p ∈ P, LineR B (O.take k) k p
theorem LineR.up {B : List Box} {O : List Int} {k : Nat} {p : Line × Line} (h : LineR B (O.take k) k p) : LineR B (O.take (k + 1)) (k + 1) p := by
  obtain ⟨h1, h2, W, h3, h4, h5, h6, h7⟩ := h
  refine ⟨h1, h2, W, h3, h4, h5, fun x hx => ?_, by omega⟩
  rw [List.take_add_one]
  exact List.mem_append_left _ (h6 x hx)
theorem lastA {A : Type} {s : Sl A} {L : List A} {a : A} (h : s.getD [] = L ++ [a]) (hl : L.length ≤ 2000000) : wr ((((s.getD []).length : Nat) : Int) - 1) = ((L.length : Nat) : Int) ∧ kBp (s.getD []) ((L.length : Nat) : Int) = some a ∧ ∀ v, (kC9 s ((L.length : Nat) : Int) v).getD [] = L ++ [v] := by
  have e : (s.getD []).length = L.length + 1 := by rw [h]; simp
  have g : (s.getD [])[L.length]? = some a := by rw [h]; simp
  refine ⟨by rw [e, kBj (by omega) (by omega)]; omega, kAv g, fun v => ?_⟩
  cases s with
  | none => simp at h
  | some l =>
    have h' : l = L ++ [a] := h
    subst h'
    simp [kC9]
theorem step_both {B : List Box} {gap : Int} {O : List Int} {w : Sl Int} {k : Nat} (hw : w.getD [] = O) (hO : O.Pairwise (kG6 B)) (hi : ∀ x ∈ O, InL B.length x) (hl : O.length ≤ 60) (hk : k < O.length) {S T : Sl Line} (hr : LinesR B O k S T) :
    ∃ S' T', kHk (some B) gap (some O) (S, (k : Int)) = some (.inl (S', ((k + 1 : Nat) : Int))) ∧ kHe (some B) gap w (T, (k : Int)) = some (.inl (T', ((k + 1 : Nat) : Int))) ∧ LinesR B O (k + 1) S' T' := by
  obtain ⟨P, h1, h2, h3, h4⟩ := hr
  have gx : O[k]? = some O[k] := List.getElem?_eq_getElem hk
  have nin : O[k] ∉ O.take k := fun hm => by
    obtain ⟨i, hi1, hi2⟩ := List.getElem_of_mem hm
    have hi3 : i < k := by simp at hi1; omega
    rw [List.getElem_take] at hi2
    have hp := List.pairwise_iff_getElem.1 hO i k (by omega) hk hi3
    rw [hi2] at hp
    exact highT_irr _ hp
  have hx := hi _ (List.getElem_mem hk)
  generalize O[k] = x at gx nin hx
  have xin : x ∈ O.take (k + 1) := by
    rw [List.take_add_one, gx]
    exact List.mem_append_right _ (by simp)
  obtain ⟨m, rfl⟩ := Int.eq_ofNat_of_zero_le hx.1
  have hm : m < B.length := by have := hx.2; omega
  have gb : B[m]? = some B[m] := List.getElem?_eq_getElem hm
  generalize B[m] = b at gb
  have c : decide ((k : Int) < ((O.length : Nat) : Int)) = true := decide_eq_true (by omega)
  have ws := kC7 hk (show O.length ≤ 4294967296 by omega)
  have gx' := kAv gx
  have gb' := kAv gb
  have lS : (S.getD []).length = P.length := by rw [h1, List.length_map]
  have lT : (T.getD []).length = P.length := by rw [h2, List.length_map]
  have fresh : ∀ (S' T' : Sl Line), S' = kBn S [(⟨b.y1, b.y2, some [(m : Int)]⟩ : Line)] → T'.getD [] = T.getD [] ++ [(⟨b.y1, max b.y2 b.y2, some [(m : Int)]⟩ : Line)] → LinesR B O (k + 1) S' T' := fun S' T' e1 e2 => by
    refine ⟨P ++ [(⟨b.y1, b.y2, some [(m : Int)]⟩, ⟨b.y1, max b.y2 b.y2, some [(m : Int)]⟩)], ?_, ?_, by simp; omega, fun p hp => ?_⟩
    · rw [e1, kEw, h1]
      simp
    · rw [e2, h2]
      simp
    · rcases List.mem_append.1 hp with hp | hp
      · exact (h4 p hp).up
      · rw [List.mem_singleton] at hp
        subst hp
        refine ⟨rfl, (Int.max_self _).symm, [(m : Int)], rfl, by simp, List.Perm.refl _, fun y hy => ?_, by simp⟩
        rw [List.mem_singleton] at hy
        subst hy
        exact xin
  have aT : kF5 T [(⟨b.y1, b.y2, (none : Sl Int)⟩ : Line)] = some (kBn T [(⟨b.y1, b.y2, (none : Sl Int)⟩ : Line)]) := kDb (by rw [lT]; simp; omega)
  have gT : (kBn T [(⟨b.y1, b.y2, (none : Sl Int)⟩ : Line)]).getD [] = P.map Prod.snd ++ [(⟨b.y1, b.y2, (none : Sl Int)⟩ : Line)] := by rw [kEw, h2]
  obtain ⟨u1, u2, u3⟩ := lastA gT (by simp; omega)
  have aS : kF5 S [(⟨b.y1, b.y2, some [(m : Int)]⟩ : Line)] = some (kBn S [(⟨b.y1, b.y2, some [(m : Int)]⟩ : Line)]) := kDb (by rw [lS]; simp; omega)
  have aI : kF5 (none : Sl Int) [(m : Int)] = some (some [(m : Int)]) := kIq _ _ (by simp)
  have aJ : kBn (none : Sl Int) [(m : Int)] = some [(m : Int)] := rfl
  have setT : (kC9 (kC9 (kBn T [(⟨b.y1, b.y2, (none : Sl Int)⟩ : Line)]) (((P.map Prod.snd).length : Nat) : Int) (⟨b.y1, max b.y2 b.y2, (none : Sl Int)⟩ : Line)) (((P.map Prod.snd).length : Nat) : Int) (⟨b.y1, max b.y2 b.y2, some [(m : Int)]⟩ : Line)).getD [] = T.getD [] ++ [(⟨b.y1, max b.y2 b.y2, some [(m : Int)]⟩ : Line)] := by
    obtain ⟨_, _, u4⟩ := lastA (u3 (⟨b.y1, max b.y2 b.y2, (none : Sl Int)⟩ : Line)) (by simp; omega)
    rw [u4, h2]
  rcases List.eq_nil_or_concat P with e | ⟨P', p, e⟩
  · subst e
    have d0 : decide ((((S.getD []).length : Nat) : Int) = 0) = true := decide_eq_true (by rw [lS]; rfl)
    have d1 : decide (wr ((((T.getD []).length : Nat) : Int) - 1) < 0) = true := decide_eq_true (by rw [lT, kBj (by simp) (by simp)]; simp)
    refine ⟨_, _, ?_, ?_, fresh _ _ rfl setT⟩
    · unfold kHk
      simp only [Option.getD_some, c, cond_true, gx', gb', kA2, d0, aS, ws]
    · unfold kHe
      simp only [hw, Option.getD_some, c, cond_true, gx', gb', kA2, d1, aT, u1, u2, aI, aJ, ws]
  · rw [List.concat_eq_append] at e
    have lP : P.length = P'.length + 1 := by rw [e]; simp
    have hS : S.getD [] = P'.map Prod.fst ++ [p.1] := by rw [h1, e]; simp
    have hT : T.getD [] = P'.map Prod.snd ++ [p.2] := by rw [h2, e]; simp
    obtain ⟨s1, s2, s3⟩ := lastA hS (by simp; omega)
    obtain ⟨t1, t2, t3⟩ := lastA hT (by simp; omega)
    have hp := h4 p (by rw [e]; simp)
    obtain ⟨q1, q2, W, q3, q4, q5, q6, q7⟩ := hp
    have d0 : decide ((((S.getD []).length : Nat) : Int) = 0) = false := decide_eq_false (by rw [lS]; omega)
    have d1 : decide ((((P'.map Prod.snd).length : Nat) : Int) < 0) = false := decide_eq_false (by omega)
    cases cc : decide (wr (p.1.bottom + gap) < b.y1) with
    | true =>
      have cc2 : decide (wr (p.2.bottom + gap) < b.y1) = true := by rw [← q2]; exact cc
      refine ⟨_, _, ?_, ?_, fresh _ _ rfl setT⟩
      · unfold kHk
        simp only [Option.getD_some, c, cond_true, gx', gb', kA2, d0, cond_false, s1, s2, cc, aS, ws]
      · unfold kHe
        simp only [hw, Option.getD_some, c, cond_true, gx', gb', kA2, t1, d1, cond_false, t2, cc2, aT, u1, u2, aI, aJ, ws]
    | false =>
      have cc2 : decide (wr (p.2.bottom + gap) < b.y1) = false := by rw [← q2]; exact cc
      obtain ⟨r, f1, f2, f3⟩ := putO_ok (q := some B) (W := W) (k := (m : Int)) (high := false) q4 (fun y hy => hi y (List.mem_of_mem_take (q6 y hy))) hx (fun hy => nin (q6 _ hy)) (by omega)
      have il : (p.2.items.getD []).length = W.length := q5.length_eq.symm
      have aI : kF5 p.2.items [(m : Int)] = some (kBn p.2.items [(m : Int)]) := kDb (by rw [il]; simp; omega)
      refine ⟨kC9 S (((P'.map Prod.fst).length : Nat) : Int) ⟨p.1.top, max p.1.bottom b.y2, some r⟩, kC9 (kC9 T (((P'.map Prod.snd).length : Nat) : Int) ⟨p.2.top, max p.2.bottom b.y2, p.2.items⟩) (((P'.map Prod.snd).length : Nat) : Int) ⟨p.2.top, max p.2.bottom b.y2, kBn p.2.items [(m : Int)]⟩, ?_, ?_, ?_⟩
      · unfold kHk
        simp only [Option.getD_some, c, cond_true, gx', gb', kA2, d0, cond_false, s1, s2, cc, q3, f1, ws]
      · unfold kHe
        simp only [hw, Option.getD_some, c, cond_true, gx', gb', kA2, t1, d1, cond_false, t2, cc2, aI, ws]
      · obtain ⟨_, _, t4⟩ := lastA (t3 (⟨p.2.top, max p.2.bottom b.y2, p.2.items⟩ : Line)) (by simp; omega)
        refine ⟨P' ++ [(⟨p.1.top, max p.1.bottom b.y2, some r⟩, ⟨p.2.top, max p.2.bottom b.y2, kBn p.2.items [(m : Int)]⟩)], ?_, ?_, by simp; omega, fun p' hp' => ?_⟩
        · rw [s3]
          simp
        · rw [t4]
          simp
        · rcases List.mem_append.1 hp' with hp' | hp'
          · exact (h4 p' (by rw [e]; exact List.mem_append_left _ hp')).up
          · rw [List.mem_singleton] at hp'
            subst hp'
            refine ⟨q1, by show max p.1.bottom b.y2 = max p.2.bottom b.y2; rw [q2], r, rfl, f2, ?_, fun y hy => ?_, ?_⟩
            · show r.Perm ((kBn p.2.items [(m : Int)]).getD [])
              rw [kEw]
              exact f3.trans ((q5.cons _).trans (List.perm_append_singleton _ _).symm)
            · rcases List.mem_cons.1 (f3.mem_iff.1 hy) with rfl | hy
              · exact xin
              · rw [List.take_add_one]
                exact List.mem_append_left _ (q6 y hy)
            · rw [f3.length_eq]
              simp
              omega
theorem loops_both {B : List Box} {gap : Int} {O : List Int} {w : Sl Int} (hw : w.getD [] = O) (hO : O.Pairwise (kG6 B)) (hi : ∀ x ∈ O, InL B.length x) (hl : O.length ≤ 60) : ∀ (j k : Nat) {S T : Sl Line}, k + j = O.length → LinesR B O k S T → ∃ S' T', kBa (kHk (some B) gap (some O)) (S, (k : Int)) = some S' ∧ kBa (kHe (some B) gap w) (T, (k : Int)) = some T' ∧ LinesR B O O.length S' T'
  | 0, k, S, T, hk, hr => by
    have e : k = O.length := by omega
    subst e
    refine ⟨S, T, kB7 ?_, kB7 ?_, hr⟩
    · unfold kHk
      simp only [Option.getD_some, Int.lt_irrefl, decide_false, cond_false]
    · unfold kHe
      simp only [hw, Int.lt_irrefl, decide_false, cond_false]
  | j + 1, k, S, T, hk, hr => by
    obtain ⟨S1, T1, e1, e2, h⟩ := step_both (gap := gap) hw hO hi hl (k := k) (by omega) hr
    obtain ⟨S', T', f1, f2, h'⟩ := loops_both hw hO hi hl j (k + 1) (by omega) h
    exact ⟨S', T', (kBg e1).trans f1, (kBg e2).trans f2, h'⟩
theorem setS_getD {A : Type} (s : Sl A) (k : Nat) (v : A) : (kC9 s (k : Int) v).getD [] = (s.getD []).set k v := by
  cases s with
  | none => rfl
  | some l => rfl
theorem mem_sub {n : Nat} : ∀ {zs : List Int}, (∀ z ∈ zs, InL n z) → ∃ xs : List {i : Int // InL n i}, zs = xs.map (·.1)
  | [], _ => ⟨[], rfl⟩
  | z :: zs, h => by
    obtain ⟨xs, e⟩ := mem_sub (zs := zs) fun y hy => h y (List.mem_cons_of_mem _ hy)
    exact ⟨⟨z, h z List.mem_cons_self⟩ :: xs, by rw [List.map_cons, ← e]⟩
theorem kF4 {B : List Box} {x y : Int} (hx : InL B.length x) (hy : InL B.length y) : ltC (kC2 (some B)) x y = true ↔ kHs B x y := by
  obtain ⟨n, rfl⟩ := Int.eq_ofNat_of_zero_le hx.1
  obtain ⟨m, rfl⟩ := Int.eq_ofNat_of_zero_le hy.1
  exact kEv (q := some B) (by unfold kG0; have := hx.2; simp; omega) (by unfold kG0; have := hy.2; simp; omega)
theorem sortC_left {B : List Box} {zs W : List Int} (hz : ∀ z ∈ zs, InL B.length z) (hW : W.Pairwise (kHs B)) (hp : W.Perm zs) : kH7 (kC2 (some B)) zs = W := by
  obtain ⟨xs, rfl⟩ := mem_sub hz
  have e : kH7 (kC2 (some B)) (xs.map (·.1)) = (xs.mergeSort fun x y => !ltC (kC2 (some B)) y.1 x.1).map (·.1) :=
    (List.map_mergeSort (r := fun x y : {i : Int // InL B.length i} => !ltC (kC2 (some B)) y.1 x.1) (s := fun x y => !ltC (kC2 (some B)) y x) (f := fun x : {i : Int // InL B.length i} => x.1) (l := xs) (fun a _ b _ => rfl)).symm
  have tri : ∀ x y : {i : Int // InL B.length i}, ltC (kC2 (some B)) x.1 y.1 = true ∨ x = y ∨ ltC (kC2 (some B)) y.1 x.1 = true := fun x y => by
    rcases leftT_tri x.2 y.2 with h | h | h
    · exact .inl ((kF4 x.2 y.2).2 h)
    · exact .inr (.inl (Subtype.ext h))
    · exact .inr (.inr ((kF4 y.2 x.2).2 h))
  have asy : ∀ x y : {i : Int // InL B.length i}, ltC (kC2 (some B)) x.1 y.1 = true → ltC (kC2 (some B)) y.1 x.1 = false := fun x y h => by
    cases h2 : ltC (kC2 (some B)) y.1 x.1 with
    | false => rfl
    | true => exact absurd (leftT_tr ((kF4 x.2 y.2).1 h) ((kF4 y.2 x.2).1 h2)) (leftT_irr _)
  have srt := List.pairwise_mergeSort (le := fun x y : {i : Int // InL B.length i} => !ltC (kC2 (some B)) y.1 x.1)
    (fun a b c h1 h2 => by
      simp only [Bool.not_eq_true'] at h1 h2 ⊢
      cases h3 : ltC (kC2 (some B)) c.1 a.1 with
      | false => rfl
      | true =>
        rcases tri a b with h | h | h
        · have := (kF4 c.2 b.2).2 (leftT_tr ((kF4 c.2 a.2).1 h3) ((kF4 a.2 b.2).1 h))
          rw [this] at h2
          cases h2
        · subst h
          rw [h3] at h2
          cases h2
        · rw [h] at h1
          cases h1)
    (fun a b => by
      rcases tri a b with h | h | h
      · simp [asy a b h]
      · subst h
        cases h3 : ltC (kC2 (some B)) a.1 a.1 with
        | false => rfl
        | true => have := asy a a h3; rw [h3] at this; cases this
      · simp [asy b a h]) xs
  have pm := List.mergeSort_perm xs fun x y : {i : Int // InL B.length i} => !ltC (kC2 (some B)) y.1 x.1
  rw [e]
  generalize (xs.mergeSort fun x y : {i : Int // InL B.length i} => !ltC (kC2 (some B)) y.1 x.1) = R at srt pm
  have pR : W.Perm (R.map (·.1)) := hp.trans (pm.map (·.1)).symm
  have ndW : W.Nodup := hW.imp fun {a b} h e => by
    subst e
    exact leftT_irr _ h
  have nd : (R.map (·.1)).Nodup := pR.nodup_iff.1 ndW
  refine uniqT (T := kHs B) leftT_irr (fun x y z => leftT_tr) ?_ hW pR.symm
  rw [List.pairwise_iff_getElem]
  intro i j h1 h2 hij
  have h1' : i < R.length := by simpa using h1
  have h2' : j < R.length := by simpa using h2
  have g := List.pairwise_iff_getElem.1 srt i j h1' h2' hij
  have ne := List.pairwise_iff_getElem.1 nd i j h1 h2 hij
  rw [List.getElem_map, List.getElem_map] at *
  rcases tri R[i] R[j] with h | h | h
  · exact (kF4 R[i].2 R[j].2).1 h
  · exact absurd (congrArg Subtype.val h) ne
  · simp [h] at g
theorem sortCO_left {B : List Box} {s : Sl Int} {W : List Int} (hW : W.Pairwise (kHs B)) (hp : W.Perm (s.getD [])) (hi : ∀ x ∈ W, InL B.length x) (hl : W.length ≤ 1000) : ∃ r, sortCO kG0 kC2 (some B) s = some r ∧ r.getD [] = W := by
  cases s with
  | none => exact ⟨none, rfl, (List.Perm.eq_nil hp).symm⟩
  | some l =>
    have hp' : W.Perm l := hp
    have hz : ∀ z ∈ l, InL B.length z := fun z hz => hi z (hp'.mem_iff.2 hz)
    refine ⟨some W, ?_, rfl⟩
    have d : (decide (l.length ≤ 4294967296) && l.all fun z => decide (0 ≤ z) && decide (z < (kG0 (some B) : Int))) = true := by
      rw [Bool.and_eq_true, decide_eq_true_eq, List.all_eq_true]
      refine ⟨by have := hp'.length_eq; omega, fun z h => ?_⟩
      rw [Bool.and_eq_true, decide_eq_true_eq, decide_eq_true_eq]
      exact ⟨(hz z h).1, (hz z h).2⟩
    unfold sortCO
    simp only [d, cond_true, sortC_left hz hW hp']
def rowLn (l : Line) : Int × Int × List Int := (l.top, l.bottom, l.items.getD [])
def kDl (s : Sl Line) : List (Int × Int × List Int) := (s.getD []).map rowLn
theorem lines_both {B : List Box} {gap : Int} (hn : B.length ≤ 60) : ∃ G S, t_q11 (some B) gap = some G ∧ t_q47 (some B) gap = some S ∧ kDl G = kDl S ∧ (kDl S).length ≤ 60 ∧ ∀ r ∈ kDl S, r.2.2.length ≤ 60 ∧ r.2.2.Pairwise (kHs B) ∧ ∀ x ∈ r.2.2, InL B.length x := by
  obtain ⟨O, q, w, e1, e2, e3, hw, hO, hp⟩ := orders_both hn
  have hi : ∀ x ∈ O, InL B.length x := fun x hx => kH3 (hp.mem_iff.1 hx)
  have hl : O.length ≤ 60 := by rw [hp.length_eq, kH6]; exact hn
  obtain ⟨S, T, f1, f2, P, r1, r2, r3, r4⟩ := loops_both (gap := gap) hw hO hi hl O.length 0 (S := some []) (T := none) (by omega) ⟨[], rfl, rfl, by simp, by simp⟩
  have lT : (T.getD []).length = P.length := by rw [r2, List.length_map]
  obtain ⟨G, g1, g2, g3⟩ := kEl (step := s2_q11 (some B) T) (fun k s => s.2 = (k : Int) ∧ (s.1.getD []).length = P.length ∧ ∀ (j : Nat) (p : Line × Line), P[j]? = some p → ∃ a, (s.1.getD [])[j]? = some a ∧ (j < k → rowLn a = rowLn p.1) ∧ (k ≤ j → a = p.2)) P.length
    (fun G => (G.getD []).length = P.length ∧ ∀ (j : Nat) (p : Line × Line), P[j]? = some p → ∃ a, (G.getD [])[j]? = some a ∧ rowLn a = rowLn p.1)
    (fun k ⟨s, i⟩ hk ⟨h1, h2, h3⟩ => by
      simp only at h1 h2 h3
      subst h1
      obtain ⟨p, hpk⟩ : ∃ p, P[k]? = some p := ⟨P[k], List.getElem?_eq_getElem hk⟩
      obtain ⟨a, ha, _, ha2⟩ := h3 k p hpk
      have ha2 := ha2 (Nat.le_refl _)
      subst ha2
      obtain ⟨b1, b2, W, b3, b4, b5, b6, b7⟩ := r4 p (List.mem_of_getElem? hpk)
      obtain ⟨r, c1, c2⟩ := sortCO_left b4 b5 (fun x hx => hi x (List.mem_of_mem_take (b6 x hx))) (by omega)
      have c : decide ((k : Int) < (((T.getD []).length : Nat) : Int)) = true := decide_eq_true (by rw [lT]; omega)
      refine .inl ⟨(kC9 s (k : Int) ⟨p.2.top, p.2.bottom, r⟩, ((k + 1 : Nat) : Int)), ?_, rfl, ?_, fun j p' hj => ?_⟩
      · unfold s2_q11
        simp only [c, cond_true, kAv ha, kA2, c1, kC7 hk (show P.length ≤ 4294967296 by omega)]
      · show ((kC9 s (k : Int) _).getD []).length = _
        rw [setS_getD, List.length_set, h2]
      · show ∃ a, ((kC9 s (k : Int) _).getD [])[j]? = some a ∧ _
        rw [setS_getD]
        by_cases ej : j = k
        · subst ej
          rw [hpk] at hj
          cases hj
          refine ⟨_, List.getElem?_set_self (by omega), fun _ => ?_, fun h => by omega⟩
          unfold rowLn
          rw [b1, b2, b3]
          simp only [c2, Option.getD_some]
        · rw [List.getElem?_set_ne (Ne.symm ej)]
          obtain ⟨a', d1, d2, d3⟩ := h3 j p' hj
          exact ⟨a', d1, fun h => d2 (by omega), fun h => d3 (by omega)⟩)
    (fun ⟨s, i⟩ ⟨h1, h2, h3⟩ => by
      simp only at h1 h2 h3
      subst h1
      refine ⟨s, ?_, h2, fun j p hj => ?_⟩
      · unfold s2_q11
        simp only [lT, Int.lt_irrefl, decide_false, cond_false]
      · obtain ⟨a, a1, a2, _⟩ := h3 j p hj
        exact ⟨a, a1, a2 (kFk hj)⟩)
    (s := (T, 0)) ⟨rfl, lT, fun j p hj => ⟨p.2, by
      show (T.getD [])[j]? = _
      rw [r2, List.getElem?_map, hj]
      rfl, fun h => absurd h (Nat.not_lt_zero _), fun _ => rfl⟩⟩
  refine ⟨G, S, ?_, ?_, ?_, ?_, ?_⟩
  · unfold t_q11
    have f2' : kBa (kHe (some B) gap w) ((none : Sl Line), 0) = some T := f2
    rw [e2, kA2, e3, kA2, f2', kA2, g1, kA2]
  · unfold t_q47
    have f1' : kBa (kHk (some B) gap (some O)) ((some ([] : List Line)), 0) = some S := f1
    rw [e1, kA2, f1', kA2]
  · unfold kDl
    rw [r1]
    apply List.ext_getElem?
    intro j
    rw [List.getElem?_map, List.getElem?_map, List.getElem?_map]
    by_cases hj : j < P.length
    · have hpj : P[j]? = some P[j] := List.getElem?_eq_getElem hj
      obtain ⟨a, a1, a2⟩ := g3 j _ hpj
      rw [a1, hpj]
      simp only [Option.map_some, a2]
    · rw [List.getElem?_eq_none (by omega), List.getElem?_eq_none (by omega)]
      rfl
  · unfold kDl
    rw [r1]
    simp
    omega
  · intro r hr
    unfold kDl at hr
    rw [r1, List.map_map] at hr
    obtain ⟨p, hp1, rfl⟩ := List.mem_map.1 hr
    obtain ⟨_, _, W, b3, b4, _, b6, b7⟩ := r4 p hp1
    show (p.1.items.getD []).length ≤ 60 ∧ (p.1.items.getD []).Pairwise _ ∧ ∀ x ∈ p.1.items.getD [], _
    rw [b3]
    exact ⟨by show W.length ≤ 60; omega, b4, fun x hx => hi x (List.mem_of_mem_take (b6 x hx))⟩
def s0_q37 (boxes_ : Sl Box) (wordGap_ : Int) (c12 : (Sl Line)) : ((Sl (Sl Int)) × Int) → Option (Sum ((Sl (Sl Int)) × Int) (Sl (Sl Int))) := fun (w22, w27) =>
  bif decide (w27 < (((c12.getD []).length : Nat) : Int)) then
    kA0 (kBp (c12.getD []) w27) fun a37 =>
    kA0 (t_q49 boxes_ a37.items wordGap_) fun c43 =>
    kA0 (kF5 w22 (c43.getD [])) fun _ =>
    some (.inl ((kBn w22 (c43.getD [])), wr (w27 + 1)))
  else
    some (.inr w22)
def t_q37 (boxes_ : Sl Box) (lineGap_ : Int) (wordGap_ : Int) : Option ((Sl (Sl Int)) × Int) :=
  kA0 (t_q42 boxes_) fun c1 =>
  bif !c1 then
    some ((none : Sl (Sl Int)), 1)
  else
    kA0 (t_q43 lineGap_) fun c3 =>
    kA0 (bif !c3 then some false else (kA0 (t_q43 wordGap_) fun c5 => some (!c5))) fun c6 =>
    bif (bif !c3 then true else c6) then
      some ((none : Sl (Sl Int)), 2)
    else
      kA0 (t_q47 boxes_ lineGap_) fun c12 =>
      kA0 (kBa (s0_q37 boxes_ wordGap_ c12) ((some ([] : List (Sl Int))), 0)) fun q31 =>
      some (q31, 0)
theorem tl0_q37 (env : Nat → Contract) {B : Base} (he_q42 : env n_q42 = .pure (C1 (fun c : Bool => enc c) t_q42)) (he_q43 : env n_q43 = .pure (C1 (fun c : Bool => enc c) t_q43)) (he_q47 : env n_q47 = .pure (C2 (fun c : (Sl Line) => rD c) t_q47)) (he_q49 : env n_q49 = .pure (C3 (fun c : (Sl (Sl Int)) => rD c) t_q49)) (boxes_ : Sl Box) (lineGap_ : Int) (wordGap_ : Int) (c1 : Bool) (c3 : Bool) (c6 : Bool) (x8 : AV) (c12 : (Sl Line)) (x14 : AV) (ps17 : PS Line) (hp18 : pj ps17 = c12) (rd20 : RdD B x14 ps17)  : kG7 (fun (st : (Sl (Sl Int)) × Int) tm h25 => match st with | (w22, w27) => ∃ z21, ∃ ps23 : PS (Sl Int), tm = ((Sl.enc boxes_) :: (iv lineGap_) :: (iv wordGap_) :: und :: und :: und :: kBd :: (iv 0) :: z21 :: x14 :: (iv w27) :: (Sl.enc boxes_) :: (bv c1) :: (bv (!c1)) :: (iv lineGap_) :: (bv c3) :: (bv (!c3)) :: (bv (!c3)) :: .top :: .top :: (cond (!c3) und (bv c6)) :: (bv (bif !c3 then true else c6)) :: x8 :: (Sl.enc boxes_) :: (iv lineGap_) :: x14 :: tZ9 16 [und]) ∧ pj ps23 = w22 ∧ Hold B h25 ([] ++ D2 (A := (Sl Int)) z21 ps23)) hm0_q37 xm0_q37 (lb0_q37 env) (s0_q37 boxes_ wordGap_ c12) (fun (q : Sl (Sl Int)) (r : Res) => match q with | q31 => ∃ (q34 : Int) (z30 : AV) (ps32 : PS (Sl Int)) (h28 : kA4), r = (.exit 0, ((Sl.enc boxes_) :: (iv lineGap_) :: (iv wordGap_) :: und :: und :: und :: kBd :: (iv 0) :: z30 :: x14 :: (iv q34) :: (Sl.enc boxes_) :: (bv c1) :: (bv (!c1)) :: (iv lineGap_) :: (bv c3) :: (bv (!c3)) :: (bv (!c3)) :: .top :: .top :: (cond (!c3) und (bv c6)) :: (bv (bif !c3 then true else c6)) :: x8 :: (Sl.enc boxes_) :: (iv lineGap_) :: x14 :: tZ9 16 [und]), h28) ∧ pj ps32 = q31 ∧ Hold B h28 ([] ++ D2 (A := (Sl Int)) z30 ps32)) := by
  refine @kGi _ _ _ _ _ _ _ _ (fun st tm h25 R => ?_)
  obtain ⟨w22, w27⟩ := st
  obtain ⟨z21, ps23, rfl, hp24, O26⟩ := R
  rw [e_lb0_q37]
  unfold s0_q37
  dsimp only
  refine kA1 (D2.lenS (l := []) (x := x14) (ps := ps17) (A := Line) (rd20 _ O26.keep) hp18) ?_
  refine kA1 (kAa _ _) ?_
  refine kA9 (fun c36 => ?_) (fun c36 => ?_)
  · refine kD4 (l := []) (x := x14) (ps := ps17) (A := Line) (rd20 _ O26.keep) hp18 (fun m38 a37 x41 hi39 hm40 hg42 => ?_)
    refine kA1 (v := elp x14 m38 2) (D2.fld (l := []) (x := x14) (ps := ps17) (A := Line) (rd20 _ O26.keep) hm40 _ _) ?_
    refine kA1 (v := x41) (D2.ld (l := []) (x := x14) (ps := ps17) (A := Line) (rd20 _ O26.keep) hm40 false 1 2) ?_
    refine kF1 he_q49 (kBc _ _) ((D2.tab (l := []) (x := x14) (ps := ps17) (A := Line) (rd20 _ O26.keep) hm40).snap) (kAj _ _) (fun c43 => ?_)
    refine kIe (l := ([] ++ D2 (A := (Sl Int)) z21 ps23)) (A := (Sl Int)) O26 (fun x45 ps48 h46 hp49 O47 => ?_)
    refine sim_appD (l := []) (x := z21) (ps := ps23) (y := x45) (qs := ps48) O47 hp24 hp49 (by decide) (fun x50 ps53 h51 hp54 O52 => ?_)
    refine kA1 (kAi _ _) ?_
    exact kA6 ⟨rfl, _, _, rfl, hp54, O52⟩
  · exact kA6 ⟨nofun, _, _, _, _, rfl, hp24, O26⟩
theorem ts_q37 (env : Nat → Contract) (he_q42 : env n_q42 = .pure (C1 (fun c : Bool => enc c) t_q42)) (he_q43 : env n_q43 = .pure (C1 (fun c : Bool => enc c) t_q43)) (he_q47 : env n_q47 = .pure (C2 (fun c : (Sl Line) => rD c) t_q47)) (he_q49 : env n_q49 = .pure (C3 (fun c : (Sl (Sl Int)) => rD c) t_q49)) (boxes_ : Sl Box) (lineGap_ : Int) (wordGap_ : Int) : Sim (kAo Try.prog env n_q37 [Sl.enc boxes_, iv lineGap_, iv wordGap_] []) (t_q37 boxes_ lineGap_ wordGap_) fun c p => release p.2 depth p.1 = some ((fun c : (Sl (Sl Int)) × Int => AV.tup [rD c.1, enc c.2]) c) := by
  have O := Hold.nil []
  generalize hB : (⟨[], []⟩ : Base) = B at O
  clear hB
  rw [e_q37]
  unfold t_q37
  refine kCr he_q42 (kBc _ _) (fun c1 => ?_)
  refine kBt (kAk (by rfl) _ _) ?_
  refine kA1 (v := bv (!c1)) (kCg _) ?_
  refine kA9 (fun c2 => ?_) (fun c2 => ?_)
  · exact kA6 (kA8 (by rfl) _)
  · refine kCr he_q43 (kAj _ _) (fun c3 => ?_)
    refine kBt (kAk (by rfl) _ _) ?_
    refine kA1 (v := bv (!c3)) (kCg _) ?_
    refine kDi (e := bv) (fun hb4 => ?_) (fun c6 => ?_)
    · refine kCr he_q43 (kAj _ _) (fun c5 => ?_)
      refine kBt (kAk (by rfl) _ _) ?_
      refine kA1 (v := bv (!c5)) (kCg _) ?_
      exact kA6 rfl
    · refine kA1 (v := bv (bif !c3 then true else c6)) (kF7 _ _ _) ?_
      refine kA9 (fun c7 => ?_) (fun c7 => ?_)
      · exact kA6 (kA8 (by rfl) _)
      · refine kCn O [] 1 rfl rfl rfl (fun x8 h9 O10 => ?_)
        replace O10 : Hold B h9 ([] ++ D2 (A := (Sl Int)) x8 (some [] : PS (Sl Int))) := O10
        refine kC6 he_q47 (kBc _ _) (kAj _ _) (fun c12 => ?_)
        refine kIe (l := ([] ++ D2 (A := (Sl Int)) x8 (some [] : PS (Sl Int)))) (A := Line) O10 (fun x14 ps17 h15 hp18 O16 => ?_)
        obtain ⟨B, O19, rd20⟩ := Hold.aside O16
        replace O19 : Hold B h15 ([] ++ D2 (A := (Sl Int)) x8 (some [] : PS (Sl Int))) := O19
        refine kB2 ((tl0_q37 env he_q42 he_q43 he_q47 he_q49 boxes_ lineGap_ wordGap_ c1 c3 c6 x8 c12 x14 ps17 hp18 rd20) ⟨_, _, rfl, (rfl : pj (some [] : PS (Sl Int)) = (some ([] : List (Sl Int)))), O19⟩) (fun qq59 r hq => ?_)
        revert hq
        revert qq59
        intro q31 hq
        obtain ⟨q34, z30, ps32, h28, rfl, hp33, O29⟩ := hq
        rw [e_lk0x0_q37]
        have O35 : Hold B h28 ([] ++ D2 (A := (Sl Int)) z30 ps32) := O29.selD [] (by decide) rfl
        exact kA6 (kEp (by simp only [ids_tup, kH4, ids_agg, ids_iv, ids_bv, ids_sv, ids_bt, kGv, ids_enc, D2.idsN (l := []) (x := z30) (ps := ps32) (A := (Sl Int)) O35, List.map_append, List.map_nil, List.flatMap_cons, List.flatMap_nil, List.append_nil, List.nil_append]; simpa only [List.flatMap_cons, List.flatMap_nil, List.append_nil, List.nil_append] using O35.nd2) (by simp only [rel_tup, kGu, kHp, rel_iv, rel_bv, rel_sv, rel_bt, kGz, rel_enc, D2.relN (l := []) (x := z30) (ps := ps32) (A := (Sl Int)) O35 hp33, omapc, omapn, kA2] <;> rfl))
theorem tt_q37 : kAs Try.prog n_q37 (C3 (fun c : (Sl (Sl Int)) × Int => AV.tup [rD c.1, enc c.2]) t_q37) := kIo (kC3 tt_q42 (kC3 tt_q43 (kC3 tt_q47 (kC3 tt_q49 E0)))) mixed hb_q37 fun boxes_ lineGap_ wordGap_ => ts_q37 _ (by simp [kCa]) (by simp [kCa]) (by simp [kCa]) (by simp [kCa]) boxes_ lineGap_ wordGap_
def s0_q3 (boxes_ : Sl Box) (wordGap_ : Int) (c8 : (Sl Line)) : ((Sl (Sl Int)) × Int) → Option (Sum ((Sl (Sl Int)) × Int) (Sl (Sl Int))) := fun (w20, w25) =>
  bif decide (w25 < (((c8.getD []).length : Nat) : Int)) then
    kA0 (kBp (c8.getD []) w25) fun a35 =>
    kA0 (t_q14 boxes_ a35.items wordGap_) fun c47 =>
    kA0 (kF5 w20 (c47.getD [])) fun _ =>
    some (.inl ((kBn w20 (c47.getD [])), wr (w25 + 1)))
  else
    some (.inr w20)
def t_q3 (boxes_ : Sl Box) (lineGap_ : Int) (wordGap_ : Int) : Option ((Sl (Sl Int)) × Int) :=
  kA0 (t_q7 boxes_) fun c1 =>
  bif !c1 then
    some ((none : Sl (Sl Int)), 1)
  else
    kA0 (t_q6 lineGap_) fun c3 =>
    kA0 (bif !c3 then some false else (kA0 (t_q6 wordGap_) fun c5 => some (!c5))) fun c6 =>
    bif (bif !c3 then true else c6) then
      some ((none : Sl (Sl Int)), 2)
    else
      kA0 (t_q11 boxes_ lineGap_) fun c8 =>
      kA0 (kBa (s0_q3 boxes_ wordGap_ c8) ((none : Sl (Sl Int)), 0)) fun q29 =>
      some (q29, 0)
theorem tl0_q3 (env : Nat → Contract) {B : Base} (he_q6 : env n_q6 = .pure (C1 (fun c : Bool => enc c) t_q6)) (he_q7 : env n_q7 = .pure (C1 (fun c : Bool => enc c) t_q7)) (he_q11 : env n_q11 = .pure (C2 (fun c : (Sl Line) => rD c) t_q11)) (he_q14 : env n_q14 = .pure (C3 (fun c : (Sl (Sl Int)) => rD c) t_q14)) (boxes_ : Sl Box) (lineGap_ : Int) (wordGap_ : Int) (c1 : Bool) (c3 : Bool) (c6 : Bool) (c8 : (Sl Line)) (x10 : AV) (ps13 : PS Line) (hp14 : pj ps13 = c8) (rd16 : RdD B x10 ps13)  : kG7 (fun (st : (Sl (Sl Int)) × Int) tm h23 => match st with | (w20, w25) => ∃ z19, ∃ ps21 : PS (Sl Int), tm = ((Sl.enc boxes_) :: (iv lineGap_) :: (iv wordGap_) :: und :: und :: und :: kBd :: (iv 0) :: z19 :: und :: .top :: (Sl.enc boxes_) :: (bv c1) :: (bv (!c1)) :: (iv lineGap_) :: (bv c3) :: (bv (!c3)) :: (bv (!c3)) :: .top :: .top :: (cond (!c3) und (bv c6)) :: (bv (bif !c3 then true else c6)) :: (Sl.enc boxes_) :: (iv lineGap_) :: x10 :: (iv (((c8.getD []).length : Nat) : Int)) :: (iv w25) :: tZ9 11 [und]) ∧ pj ps21 = w20 ∧ Hold B h23 ([] ++ D2 (A := (Sl Int)) z19 ps21)) hm0_q3 xm0_q3 (lb0_q3 env) (s0_q3 boxes_ wordGap_ c8) (fun (q : Sl (Sl Int)) (r : Res) => match q with | q29 => ∃ (z28 : AV) (z32 : AV) (ps30 : PS (Sl Int)) (h26 : kA4), r = (.exit 0, ((Sl.enc boxes_) :: (iv lineGap_) :: (iv wordGap_) :: und :: und :: und :: kBd :: (iv 0) :: z28 :: und :: z32 :: (Sl.enc boxes_) :: (bv c1) :: (bv (!c1)) :: (iv lineGap_) :: (bv c3) :: (bv (!c3)) :: (bv (!c3)) :: .top :: .top :: (cond (!c3) und (bv c6)) :: (bv (bif !c3 then true else c6)) :: (Sl.enc boxes_) :: (iv lineGap_) :: x10 :: (iv (((c8.getD []).length : Nat) : Int)) :: tZ9 12 [und]), h26) ∧ pj ps30 = q29 ∧ Hold B h26 ([] ++ D2 (A := (Sl Int)) z28 ps30)) := by
  refine @kGi _ _ _ _ _ _ _ _ (fun st tm h23 R => ?_)
  obtain ⟨w20, w25⟩ := st
  obtain ⟨z19, ps21, rfl, hp22, O24⟩ := R
  rw [e_lb0_q3]
  unfold s0_q3
  dsimp only
  refine kA1 (kAa _ _) ?_
  refine kA9 (fun c34 => ?_) (fun c34 => ?_)
  · refine kD4 (l := []) (x := x10) (ps := ps13) (A := Line) (rd16 _ O24.keep) hp14 (fun m36 a35 x39 hi37 hm38 hg40 => ?_)
    refine kA1 (v := AV.agg [iv a35.top, iv a35.bottom, x39]) (D2.ld (l := []) (x := x10) (ps := ps13) (A := Line) (rd16 _ O24.keep) hm38 true 3 0) ?_
    refine kGc O24 (cs := [iv 0, iv 0, kBd]) (by first | rfl | simp) (fun o41 h42 O43 => ?_)
    replace O43 : Hold B h42 ([pZ9 o41 3 [iv 0, iv 0, kBd]] ++ D2 (A := (Sl Int)) z19 ps21) := Hold.rot O43
    have jZ0 := D2.one (l := []) (x := x10) (ps := ps13) (A := Line) (rd16 _ O43.keep) hm38
    refine kEz O43 0 (cs' := [iv a35.top, iv a35.bottom, x39]) rfl (by first | rfl | simp [jZ0.1, jZ0.2]) (by simp) (by first | rfl | simp [jZ0.1, jZ0.2]) (by first | rfl | simp [kBe, jZ0.1, jZ0.2]) (fun h45 O46 => ?_)
    replace O46 : Hold B h45 ([pZ9 o41 3 [iv a35.top, iv a35.bottom, x39]] ++ D2 (A := (Sl Int)) z19 ps21) := O46
    refine kA1 (v := AV.ptr o41 1 0 2) rfl ?_
    refine kA1 (v := x39) (O46.ld 0 rfl false 1 2) ?_
    refine kF1 he_q14 (kBc _ _) ((D2.tab (l := []) (x := x10) (ps := ps13) (A := Line) (rd16 _ O46.keep) hm38).snap) (kAj _ _) (fun c47 => ?_)
    refine kIe (l := ([pZ9 o41 3 [iv a35.top, iv a35.bottom, x39]] ++ D2 (A := (Sl Int)) z19 ps21)) (A := (Sl Int)) O46 (fun x49 ps52 h50 hp53 O51 => ?_)
    refine sim_appD (l := [pZ9 o41 3 [iv a35.top, iv a35.bottom, x39]]) (x := z19) (ps := ps21) (y := x49) (qs := ps52) O51 hp22 hp53 (by decide) (fun x54 ps57 h55 hp58 O56 => ?_)
    refine kA1 (kAi _ _) ?_
    have O60 : Hold B h55 ([] ++ D2 (A := (Sl Int)) x54 ps57) := O56.selD [] (by decide) rfl
    exact kA6 ⟨rfl, _, _, rfl, hp58, O60⟩
  · exact kA6 ⟨nofun, _, _, _, _, rfl, hp22, O24⟩
theorem ts_q3 (env : Nat → Contract) (he_q6 : env n_q6 = .pure (C1 (fun c : Bool => enc c) t_q6)) (he_q7 : env n_q7 = .pure (C1 (fun c : Bool => enc c) t_q7)) (he_q11 : env n_q11 = .pure (C2 (fun c : (Sl Line) => rD c) t_q11)) (he_q14 : env n_q14 = .pure (C3 (fun c : (Sl (Sl Int)) => rD c) t_q14)) (boxes_ : Sl Box) (lineGap_ : Int) (wordGap_ : Int) : Sim (kAo Try.prog env n_q3 [Sl.enc boxes_, iv lineGap_, iv wordGap_] []) (t_q3 boxes_ lineGap_ wordGap_) fun c p => release p.2 depth p.1 = some ((fun c : (Sl (Sl Int)) × Int => AV.tup [rD c.1, enc c.2]) c) := by
  have O := Hold.nil []
  generalize hB : (⟨[], []⟩ : Base) = B at O
  clear hB
  rw [e_q3]
  unfold t_q3
  refine kCr he_q7 (kBc _ _) (fun c1 => ?_)
  refine kBt (kAk (by rfl) _ _) ?_
  refine kA1 (v := bv (!c1)) (kCg _) ?_
  refine kA9 (fun c2 => ?_) (fun c2 => ?_)
  · exact kA6 (kA8 (by rfl) _)
  · refine kCr he_q6 (kAj _ _) (fun c3 => ?_)
    refine kBt (kAk (by rfl) _ _) ?_
    refine kA1 (v := bv (!c3)) (kCg _) ?_
    refine kDi (e := bv) (fun hb4 => ?_) (fun c6 => ?_)
    · refine kCr he_q6 (kAj _ _) (fun c5 => ?_)
      refine kBt (kAk (by rfl) _ _) ?_
      refine kA1 (v := bv (!c5)) (kCg _) ?_
      exact kA6 rfl
    · refine kA1 (v := bv (bif !c3 then true else c6)) (kF7 _ _ _) ?_
      refine kA9 (fun c7 => ?_) (fun c7 => ?_)
      · exact kA6 (kA8 (by rfl) _)
      · refine kC6 he_q11 (kBc _ _) (kAj _ _) (fun c8 => ?_)
        refine kIe (l := []) (A := Line) O (fun x10 ps13 h11 hp14 O12 => ?_)
        obtain ⟨B, O15, rd16⟩ := Hold.aside O12
        replace O15 : Hold B h11 [] := O15
        refine kA1 (D2.lenS (l := []) (x := x10) (ps := ps13) (A := Line) (rd16 _ O15.keep) hp14) ?_
        have O17 : Hold B h11 ([] ++ D2 (A := (Sl Int)) kBd (none : PS (Sl Int))) := O15.addnil
        refine kB2 ((tl0_q3 env he_q6 he_q7 he_q11 he_q14 boxes_ lineGap_ wordGap_ c1 c3 c6 c8 x10 ps13 hp14 rd16) ⟨_, _, rfl, (rfl : pj (none : PS (Sl Int)) = (none : Sl (Sl Int))), O17⟩) (fun qq63 r hq => ?_)
        revert hq
        revert qq63
        intro q29 hq
        obtain ⟨z28, z32, ps30, h26, rfl, hp31, O27⟩ := hq
        rw [e_lk0x0_q3]
        have O33 : Hold B h26 ([] ++ D2 (A := (Sl Int)) z28 ps30) := O27.selD [] (by decide) rfl
        exact kA6 (kEp (by simp only [ids_tup, kH4, ids_agg, ids_iv, ids_bv, ids_sv, ids_bt, kGv, ids_enc, D2.idsN (l := []) (x := z28) (ps := ps30) (A := (Sl Int)) O33, List.map_append, List.map_nil, List.flatMap_cons, List.flatMap_nil, List.append_nil, List.nil_append]; simpa only [List.flatMap_cons, List.flatMap_nil, List.append_nil, List.nil_append] using O33.nd2) (by simp only [rel_tup, kGu, kHp, rel_iv, rel_bv, rel_sv, rel_bt, kGz, rel_enc, D2.relN (l := []) (x := z28) (ps := ps30) (A := (Sl Int)) O33 hp31, omapc, omapn, kA2] <;> rfl))
theorem tt_q3 : kAs Try.prog n_q3 (C3 (fun c : (Sl (Sl Int)) × Int => AV.tup [rD c.1, enc c.2]) t_q3) := kIo (kC3 tt_q6 (kC3 tt_q7 (kC3 tt_q11 (kC3 tt_q14 E0)))) mixed hb_q3 fun boxes_ lineGap_ wordGap_ => ts_q3 _ (by simp [kCa]) (by simp [kCa]) (by simp [kCa]) (by simp [kCa]) boxes_ lineGap_ wordGap_
def t_q15 (aBoxes_ : Sl Box) (aLineGap_ : Int) (aWordGap_ : Int) : Option Bool :=
  kA0 (t_q25 aBoxes_ 1048576) fun c1 =>
  bif decide (c1 < 0) then
    some true
  else
    kA0 (t_q27 aBoxes_) fun c3 =>
    kA0 (t_q37 c3 aLineGap_ aWordGap_) fun c8 =>
    kA0 (t_q27 aBoxes_) fun c15 =>
    kA0 (t_q3 c15 aLineGap_ aWordGap_) fun c20 =>
    kA0 (t_q19 c20.1 c8.1) fun c27 =>
    kA0 (bif !c27 then some false else (some (!decide (c20.2 = c8.2)))) fun c29 =>
    bif (bif !c27 then true else c29) then
      some false
    else
      kA0 (t_q27 aBoxes_) fun c31 =>
      kA0 (t_q17 c15 c31) fun c36 =>
      bif !c36 then
        some false
      else
        kA0 (t_q22 c15 1) fun (r38, w39) =>
        kA0 (bif decide (r38 < 0) then some false else (kA0 (t_q19 c20.1 c8.1) fun c43 => some (!c43))) fun c44 =>
        kA0 (bif (bif decide (r38 < 0) then true else c44) then some false else (some (!decide (c20.2 = c8.2)))) fun c46 =>
        bif (bif (bif decide (r38 < 0) then true else c44) then true else c46) then
          some false
        else
          kA0 (t_q24 c20.1 1) fun (r48, w49) =>
          kA0 (t_q21 w49 1) fun c54 =>
          bif decide (c54 < 0) then
            some false
          else
            bif !decide (c54 = r48) then
              some false
            else
              kA0 (t_q27 aBoxes_) fun c57 =>
              kA0 (t_q3 c57 aLineGap_ aWordGap_) fun c62 =>
              kA0 (t_q19 c62.1 c8.1) fun c69 =>
              kA0 (bif !c69 then some false else (some (!decide (c62.2 = c8.2)))) fun c71 =>
              bif (bif !c69 then true else c71) then
                some false
              else
                kA0 (t_q21 w49 1) fun c73 =>
                bif decide (c73 < 0) then
                  some false
                else
                  bif !decide (c73 = r48) then
                    some false
                  else
                    some true
theorem ts_q15 (env : Nat → Contract) (he_q3 : env n_q3 = .pure (C3 (fun c : (Sl (Sl Int)) × Int => AV.tup [rD c.1, enc c.2]) t_q3)) (he_q17 : env n_q17 = .pure (C2 (fun c : Bool => enc c) t_q17)) (he_q19 : env n_q19 = .pure (C2 (fun c : Bool => enc c) t_q19)) (he_q21 : env n_q21 = .pure (C2 (fun c : Int => enc c) t_q21)) (he_q22 : env n_q22 = .gen (kAo Try.prog (kCa []) n_q22)) (he_q24 : env n_q24 = .gen (kAo Try.prog ev_q24 n_q24)) (he_q25 : env n_q25 = .pure (C2 (fun c : Int => enc c) t_q25)) (he_q27 : env n_q27 = .pure (C1 (fun c : (Sl Box) => rS c) t_q27)) (he_q37 : env n_q37 = .pure (C3 (fun c : (Sl (Sl Int)) × Int => AV.tup [rD c.1, enc c.2]) t_q37)) (aBoxes_ : Sl Box) (aLineGap_ : Int) (aWordGap_ : Int) : Sim (kAo Try.prog env n_q15 [Sl.enc aBoxes_, iv aLineGap_, iv aWordGap_] []) (t_q15 aBoxes_ aLineGap_ aWordGap_) fun c p => release p.2 depth p.1 = some ((fun c : Bool => enc c) c) := by
  have O := Hold.nil []
  generalize hB : (⟨[], []⟩ : Base) = B at O
  clear hB
  rw [e_q15]
  unfold t_q15
  refine kC6 he_q25 (kBc _ _) (kAj _ _) (fun c1 => ?_)
  refine kBt (kAk (by rfl) _ _) ?_
  refine kA1 (kAa _ _) ?_
  refine kA9 (fun c2 => ?_) (fun c2 => ?_)
  · exact kA6 (kA8 (by rfl) _)
  · refine kCr he_q27 (kBc _ _) (fun c3 => ?_)
    refine kEi (A := Box) O (fun x5 h6 O7 => ?_)
    replace O7 : Hold B h6 [(x5, obS (c3 : Sl Box))] := O7
    refine kF1 he_q37 ((O7.tab (A := Box) (s := c3) 0 rfl).snap) (kAj _ _) (kAj _ _) (fun c8 => ?_)
    refine sim_handNC (l := [(x5, obS (c3 : Sl Box))]) (A := (Sl Int)) 5 O7 (s := c8.1) (fun z1 => AV.tup [z1, iv c8.2]) (by intro b; simp only [mat_tup, mat_aggD, mat_agg, matLc, matLn, mat_iv, mat_bv, mat_sv, mat_bt, mat_nilS, List.append_nil, List.nil_append]) (fun hn => by have hn : noF 7 (rD c8.1) = true := hn; simp only [noF_tup, noF_aggD, noF_agg, noF_iv, noF_bv, noF_sv, noF_bt, noF_nilS, hn, List.all_cons, List.all_nil, Bool.and_self]) (fun x10 ps13 h11 hp14 O12 => ?_)
    refine kA1 (v := x10) rfl ?_
    refine kA1 (v := iv c8.2) rfl ?_
    refine kCr he_q27 (kBc _ _) (fun c15 => ?_)
    refine kEi (A := Box) O12 (fun x17 h18 O19 => ?_)
    replace O19 : Hold B h18 ([(x5, obS (c3 : Sl Box)), (x17, obS (c15 : Sl Box))] ++ D2 (A := (Sl Int)) x10 ps13) := Hold.rot O19
    refine kF1 he_q3 ((O19.tab (A := Box) (s := c15) 1 rfl).snap) (kAj _ _) (kAj _ _) (fun c20 => ?_)
    refine sim_handNC (l := ([(x5, obS (c3 : Sl Box)), (x17, obS (c15 : Sl Box))] ++ D2 (A := (Sl Int)) x10 ps13)) (A := (Sl Int)) 5 O19 (s := c20.1) (fun z1 => AV.tup [z1, iv c20.2]) (by intro b; simp only [mat_tup, mat_aggD, mat_agg, matLc, matLn, mat_iv, mat_bv, mat_sv, mat_bt, mat_nilS, List.append_nil, List.nil_append]) (fun hn => by have hn : noF 7 (rD c20.1) = true := hn; simp only [noF_tup, noF_aggD, noF_agg, noF_iv, noF_bv, noF_sv, noF_bt, noF_nilS, hn, List.all_cons, List.all_nil, Bool.and_self]) (fun x22 ps25 h23 hp26 O24 => ?_)
    refine kA1 (v := x22) rfl ?_
    refine kA1 (v := iv c20.2) rfl ?_
    refine kC6 he_q19 ((D2.snapD (l := ([(x5, obS (c3 : Sl Box)), (x17, obS (c15 : Sl Box))] ++ D2 (A := (Sl Int)) x10 ps13)) (x := x22) (ps := ps25) (A := (Sl Int)) O24 hp26).2) ((D2.snapD (l := ([(x5, obS (c3 : Sl Box)), (x17, obS (c15 : Sl Box))] ++ D2 (A := (Sl Int)) x22 ps25)) (x := x10) (ps := ps13) (A := (Sl Int)) (Hold.sw20 O24) hp14).2) (fun c27 => ?_)
    refine kBt (kAk (by rfl) _ _) ?_
    refine kA1 (v := bv (!c27)) (kCg _) ?_
    refine kDi (e := bv) (fun hb28 => ?_) (fun c29 => ?_)
    · refine kA1 (kDe _ _) ?_
      exact kA6 rfl
    · refine kA1 (v := bv (bif !c27 then true else c29)) (kF7 _ _ _) ?_
      refine kA9 (fun c30 => ?_) (fun c30 => ?_)
      · exact kA6 (kA8 (by rfl) _)
      · refine kCr he_q27 (kBc _ _) (fun c31 => ?_)
        refine kEi (A := Box) O24 (fun x33 h34 O35 => ?_)
        replace O35 : Hold B h34 ([(x5, obS (c3 : Sl Box)), (x17, obS (c15 : Sl Box)), (x33, obS (c31 : Sl Box))] ++ D2 (A := (Sl Int)) x10 ps13 ++ D2 (A := (Sl Int)) x22 ps25) := Hold.rot2 O35
        refine kC6 he_q17 ((O35.tab (A := Box) (s := c15) 1 rfl).snap) ((O35.tab (A := Box) (s := c31) 2 rfl).snap) (fun c36 => ?_)
        refine kBt (kAk (by rfl) _ _) ?_
        refine kA1 (v := bv (!c36)) (kCg _) ?_
        refine kA9 (fun c37 => ?_) (fun c37 => ?_)
        · exact kA6 (kA8 (by rfl) _)
        · refine sim_mark (A := Box) O35 1 rfl he_q22 mk_laws_markBoxS (fun r38 w39 h40 O41 => ?_)
          replace O41 : Hold B h40 ([(x5, obS (c3 : Sl Box)), (x17, obS (w39 : Sl Box)), (x33, obS (c31 : Sl Box))] ++ D2 (A := (Sl Int)) x10 ps13 ++ D2 (A := (Sl Int)) x22 ps25) := O41
          refine kA1 (kAa _ _) ?_
          refine kDi (e := bv) (fun hb42 => ?_) (fun c44 => ?_)
          · refine kC6 he_q19 ((D2.snapD (l := ([(x5, obS (c3 : Sl Box)), (x17, obS (w39 : Sl Box)), (x33, obS (c31 : Sl Box))] ++ D2 (A := (Sl Int)) x10 ps13)) (x := x22) (ps := ps25) (A := (Sl Int)) O41 hp26).2) ((D2.snapD (l := ([(x5, obS (c3 : Sl Box)), (x17, obS (w39 : Sl Box)), (x33, obS (c31 : Sl Box))] ++ D2 (A := (Sl Int)) x22 ps25)) (x := x10) (ps := ps13) (A := (Sl Int)) (Hold.sw20 O41) hp14).2) (fun c43 => ?_)
            refine kBt (kAk (by rfl) _ _) ?_
            refine kA1 (v := bv (!c43)) (kCg _) ?_
            exact kA6 rfl
          · refine kA1 (v := bv (bif decide (r38 < 0) then true else c44)) (kF7 _ _ _) ?_
            refine kDi (e := bv) (fun hb45 => ?_) (fun c46 => ?_)
            · refine kA1 (kDe _ _) ?_
              exact kA6 rfl
            · refine kA1 (v := bv (bif (bif decide (r38 < 0) then true else c44) then true else c46)) (kF7 _ _ _) ?_
              refine kA9 (fun c47 => ?_) (fun c47 => ?_)
              · exact kA6 (kA8 (by rfl) _)
              · refine sim_markD (l := ([(x5, obS (c3 : Sl Box)), (x17, obS (w39 : Sl Box)), (x33, obS (c31 : Sl Box))] ++ D2 (A := (Sl Int)) x10 ps13)) (x := x22) (ps := ps25) (A := (Sl Int)) O41 hp26 he_q24 kI2 (fun r48 w49 ps52 h50 hp53 O51 => ?_)
                refine kC6 he_q21 ((D2.snapD (l := ([(x5, obS (c3 : Sl Box)), (x17, obS (w39 : Sl Box)), (x33, obS (c31 : Sl Box))] ++ D2 (A := (Sl Int)) x10 ps13)) (x := x22) (ps := ps52) (A := (Sl Int)) O51 hp53).2) (kAj _ _) (fun c54 => ?_)
                refine kBt (kAk (by rfl) _ _) ?_
                refine kA1 (kAa _ _) ?_
                refine kA9 (fun c55 => ?_) (fun c55 => ?_)
                · exact kA6 (kA8 (by rfl) _)
                · refine kA1 (kDe _ _) ?_
                  refine kA9 (fun c56 => ?_) (fun c56 => ?_)
                  · exact kA6 (kA8 (by rfl) _)
                  · refine kCr he_q27 (kBc _ _) (fun c57 => ?_)
                    refine kEi (A := Box) O51 (fun x59 h60 O61 => ?_)
                    replace O61 : Hold B h60 ([(x5, obS (c3 : Sl Box)), (x17, obS (w39 : Sl Box)), (x33, obS (c31 : Sl Box)), (x59, obS (c57 : Sl Box))] ++ D2 (A := (Sl Int)) x10 ps13 ++ D2 (A := (Sl Int)) x22 ps52) := Hold.rot2 O61
                    refine kF1 he_q3 ((O61.tab (A := Box) (s := c57) 3 rfl).snap) (kAj _ _) (kAj _ _) (fun c62 => ?_)
                    refine sim_handNC (l := ([(x5, obS (c3 : Sl Box)), (x17, obS (w39 : Sl Box)), (x33, obS (c31 : Sl Box)), (x59, obS (c57 : Sl Box))] ++ D2 (A := (Sl Int)) x10 ps13 ++ D2 (A := (Sl Int)) x22 ps52)) (A := (Sl Int)) 5 O61 (s := c62.1) (fun z1 => AV.tup [z1, iv c62.2]) (by intro b; simp only [mat_tup, mat_aggD, mat_agg, matLc, matLn, mat_iv, mat_bv, mat_sv, mat_bt, mat_nilS, List.append_nil, List.nil_append]) (fun hn => by have hn : noF 7 (rD c62.1) = true := hn; simp only [noF_tup, noF_aggD, noF_agg, noF_iv, noF_bv, noF_sv, noF_bt, noF_nilS, hn, List.all_cons, List.all_nil, Bool.and_self]) (fun x64 ps67 h65 hp68 O66 => ?_)
                    refine kA1 (v := x64) rfl ?_
                    refine kA1 (v := iv c62.2) rfl ?_
                    refine kC6 he_q19 ((D2.snapD (l := ([(x5, obS (c3 : Sl Box)), (x17, obS (w39 : Sl Box)), (x33, obS (c31 : Sl Box)), (x59, obS (c57 : Sl Box))] ++ D2 (A := (Sl Int)) x10 ps13 ++ D2 (A := (Sl Int)) x22 ps52)) (x := x64) (ps := ps67) (A := (Sl Int)) O66 hp68).2) ((D2.snapD (l := ([(x5, obS (c3 : Sl Box)), (x17, obS (w39 : Sl Box)), (x33, obS (c31 : Sl Box)), (x59, obS (c57 : Sl Box))] ++ D2 (A := (Sl Int)) x22 ps52 ++ D2 (A := (Sl Int)) x64 ps67)) (x := x10) (ps := ps13) (A := (Sl Int)) (Hold.sw30 O66) hp14).2) (fun c69 => ?_)
                    refine kBt (kAk (by rfl) _ _) ?_
                    refine kA1 (v := bv (!c69)) (kCg _) ?_
                    refine kDi (e := bv) (fun hb70 => ?_) (fun c71 => ?_)
                    · refine kA1 (kDe _ _) ?_
                      exact kA6 rfl
                    · refine kA1 (v := bv (bif !c69 then true else c71)) (kF7 _ _ _) ?_
                      refine kA9 (fun c72 => ?_) (fun c72 => ?_)
                      · exact kA6 (kA8 (by rfl) _)
                      · refine kC6 he_q21 ((D2.snapD (l := ([(x5, obS (c3 : Sl Box)), (x17, obS (w39 : Sl Box)), (x33, obS (c31 : Sl Box)), (x59, obS (c57 : Sl Box))] ++ D2 (A := (Sl Int)) x10 ps13 ++ D2 (A := (Sl Int)) x64 ps67)) (x := x22) (ps := ps52) (A := (Sl Int)) (Hold.sw31 O66) hp53).2) (kAj _ _) (fun c73 => ?_)
                        refine kBt (kAk (by rfl) _ _) ?_
                        refine kA1 (kAa _ _) ?_
                        refine kA9 (fun c74 => ?_) (fun c74 => ?_)
                        · exact kA6 (kA8 (by rfl) _)
                        · refine kA1 (kDe _ _) ?_
                          refine kA9 (fun c75 => ?_) (fun c75 => ?_)
                          · exact kA6 (kA8 (by rfl) _)
                          · exact kA6 (kA8 (by rfl) _)
theorem tt_q15 : kAs Try.prog n_q15 (C3 (fun c : Bool => enc c) t_q15) := kIo (kC3 tt_q3 (kC3 tt_q17 (kC3 tt_q19 (kC3 tt_q21 (kGg (kD3 E0 mixed hb_q22) (kGg (kD3 kHz mixed hb_q24) (kC3 tt_q25 (kC3 tt_q27 (kC3 tt_q37 E0))))))))) mixed hb_q15 fun aBoxes_ aLineGap_ aWordGap_ => ts_q15 _ (by simp [kCa]) (by simp [kCa]) (by simp [kCa]) (by simp [kCa]) (by simp [kCa]) (by simp [kCa]) (by simp [kCa]) (by simp [kCa]) (by simp [kCa]) aBoxes_ aLineGap_ aWordGap_
theorem isIdx_InL {n : Nat} {x : Int} (h : InL n x) : isIdx ((n : Nat) : Int) x = true := by
  obtain ⟨h1, h2⟩ := h
  unfold isIdx kDv
  simp
  omega
theorem implWordsS {B : List Box} {s : Sl Int} {gap : Int} (hv : ∀ b ∈ B, kB6 b = true) (hi : ∀ i ∈ s.getD [], InL B.length i) (hl : (s.getD []).length ≤ 1000) : ∃ q, t_q14 (some B) s gap = some q ∧ kBw q = wds (s.getD []) (kC8 B (s.getD [])) gap (s.getD []).length := by
  have h := implWords_ok (B := B) (I := s.getD []) (gap := gap) hv (fun i h => isIdx_InL (hi i h)) (by omega)
  cases s with
  | none => exact h
  | some l => exact h
theorem specWordsS {B : List Box} {s : Sl Int} {gap : Int} (hv : ∀ b ∈ B, kB6 b = true) (hi : ∀ i ∈ s.getD [], InL B.length i) (hl : (s.getD []).length ≤ 1000) : ∃ q, t_q49 (some B) s gap = some q ∧ kBw q = wds (s.getD []) (kC8 B (s.getD [])) gap (s.getD []).length := by
  have h := specWords_ok (B := B) (I := s.getD []) (gap := gap) hv (fun i h => isIdx_InL (hi i h)) (by omega)
  cases s with
  | none => exact h
  | some l => exact h
def allW (B : List Box) (gap : Int) (R : List (Int × Int × List Int)) : List (List Int) := R.flatMap fun r => wds r.2.2 (kC8 B r.2.2) gap r.2.2.length
theorem allW_len (B : List Box) (gap : Int) : ∀ (R : List (Int × Int × List Int)), (∀ r ∈ R, r.2.2.length ≤ 60) → (allW B gap R).length ≤ 60 * R.length ∧ ((allW B gap R).map List.length).sum ≤ 60 * R.length
  | [], _ => by simp [allW]
  | r :: R, h => by
    obtain ⟨h1, h2⟩ := allW_len B gap R fun x hx => h x (List.mem_cons_of_mem _ hx)
    obtain ⟨t1, t2⟩ := wds_tot r.2.2 (kC8 B r.2.2) gap r.2.2.length
    have h3 := h r List.mem_cons_self
    have e : allW B gap (r :: R) = wds r.2.2 (kC8 B r.2.2) gap r.2.2.length ++ allW B gap R := by simp [allW]
    rw [e, List.length_append, List.map_append, List.sum_append, t1, List.length_cons]
    exact ⟨by omega, by omega⟩
theorem allW_take (B : List Box) (gap : Int) (R : List (Int × Int × List Int)) {k : Nat} {r : Int × Int × List Int} (h : R[k]? = some r) : allW B gap (R.take (k + 1)) = allW B gap (R.take k) ++ wds r.2.2 (kC8 B r.2.2) gap r.2.2.length := by
  unfold allW
  rw [List.take_add_one, h, List.flatMap_append]
  simp
theorem rowsL_appS (s : Sl (Sl Int)) (l : List (Sl Int)) : kBw (kBn s l) = kBw s ++ l.map fun a => a.getD [] := by
  unfold kBw
  rw [kEw, List.map_append]
theorem all_loop {B : List Box} {gap : Int} {G : Sl Line} {words : Sl Box → Sl Int → Int → Option (Sl (Sl Int))} (hw : ∀ s : Sl Int, (∀ i ∈ s.getD [], InL B.length i) → (s.getD []).length ≤ 1000 → ∃ q, words (some B) s gap = some q ∧ kBw q = wds (s.getD []) (kC8 B (s.getD [])) gap (s.getD []).length)
    (hl : (kDl G).length ≤ 60) (hr : ∀ r ∈ kDl G, r.2.2.length ≤ 60 ∧ ∀ x ∈ r.2.2, InL B.length x) (step : ((Sl (Sl Int)) × Int) → Option (Sum ((Sl (Sl Int)) × Int) (Sl (Sl Int))))
    (next : ∀ (w : Sl (Sl Int)) (i : Int) , step (w, i) = bif decide (i < (((G.getD []).length : Nat) : Int)) then (kA0 (kBp (G.getD []) i) fun a => kA0 (words (some B) a.items gap) fun c => kA0 (kF5 w (c.getD [])) fun _ => some (.inl (kBn w (c.getD []), wr (i + 1)))) else some (.inr w))
    (w0 : Sl (Sl Int)) (h0 : kBw w0 = []) : ∃ q, kBa step (w0, 0) = some q ∧ kBw q = allW B gap (kDl G) := by
  have la : (kDl G).length = (G.getD []).length := by simp [kDl]
  obtain ⟨q, e, h⟩ := kEl (step := step) (fun k s => s.2 = (k : Int) ∧ kBw s.1 = allW B gap ((kDl G).take k)) (G.getD []).length (fun q => kBw q = allW B gap (kDl G))
    (fun k ⟨w, i⟩ hk ⟨h1, h2⟩ => by
      simp only at h1 h2
      subst h1
      have ga : (G.getD [])[k]? = some (G.getD [])[k] := List.getElem?_eq_getElem hk
      generalize (G.getD [])[k] = a at ga
      have gr : (kDl G)[k]? = some (rowLn a) := by
        unfold kDl
        rw [List.getElem?_map, ga]
        rfl
      obtain ⟨r1, r2⟩ := hr _ (List.mem_of_getElem? gr)
      have r1' : (a.items.getD []).length ≤ 60 := r1
      obtain ⟨c, c1, c2⟩ := hw a.items r2 (by omega)
      obtain ⟨t1, t2⟩ := wds_tot (a.items.getD []) (kC8 B (a.items.getD [])) gap (a.items.getD []).length
      have lc : (c.getD []).length ≤ 60 := by rw [← kDn, c2]; omega
      obtain ⟨l1, _⟩ := allW_len B gap ((kDl G).take k) fun x hx => (hr x (List.mem_of_mem_take hx)).1
      have lw : (w.getD []).length ≤ 3600 := by
        rw [← kDn, h2]
        have : ((kDl G).take k).length ≤ 60 := by rw [List.length_take]; omega
        omega
      have ap : kF5 w (c.getD []) = some (kBn w (c.getD [])) := kDb (by omega)
      have d : decide ((k : Int) < (((G.getD []).length : Nat) : Int)) = true := decide_eq_true (by omega)
      refine .inl ⟨(kBn w (c.getD []), ((k + 1 : Nat) : Int)), ?_, rfl, ?_⟩
      · rw [next]
        simp only [d, cond_true, kAv ga, kA2, c1, ap, kC7 hk (show (G.getD []).length ≤ 4294967296 by omega)]
      · show kBw (kBn w (c.getD [])) = _
        rw [rowsL_appS, h2, allW_take B gap _ gr]
        show _ ++ kBw c = _
        rw [c2]
        rfl)
    (fun ⟨w, i⟩ ⟨h1, h2⟩ => by
      simp only at h1 h2
      subst h1
      refine ⟨w, ?_, ?_⟩
      · rw [next]
        simp only [Int.lt_irrefl, decide_false, cond_false]
      · rw [← la, List.take_length] at h2
        exact h2)
    (s := (w0, 0)) ⟨rfl, by rw [h0]; simp [allW]⟩
  exact ⟨q, e, h⟩
theorem reading_both (B : List Box) (g1 g2 : Int) (hB : B.length ≤ 1048576) : ∃ g w n, t_q3 (some B) g1 g2 = some (g, n) ∧ t_q37 (some B) g1 g2 = some (w, n) ∧ kBw g = kBw w ∧ (kBw g).length ≤ 1048576 ∧ ((kBw g).map List.length).sum ≤ 1048576 := by
  have p1 := isPage_ok (some B) (by simp only [Option.getD_some]; omega)
  have p2 := l19Boxes_ok (some B) (by simp only [Option.getD_some]; omega)
  unfold t_q3 t_q37 t_q6 t_q43
  rw [p1, p2]
  simp only [Option.getD_some, kA2]
  cases h1 : pageB B with
  | false => exact ⟨_, _, _, rfl, rfl, rfl, by simp [kBw], by simp [kBw]⟩
  | true =>
    cases h2 : kDv g1 0 4095 with
    | false => exact ⟨_, _, _, rfl, rfl, rfl, by simp [kBw], by simp [kBw]⟩
    | true =>
      cases h3 : kDv g2 0 4095 with
      | false => exact ⟨_, _, _, rfl, rfl, rfl, by simp [kBw], by simp [kBw]⟩
      | true =>
        obtain ⟨hn, hv⟩ := pageB_true h1
        obtain ⟨G, S, e1, e2, e3, e4, e5⟩ := lines_both (gap := g1) hn
        obtain ⟨q, f1, f2⟩ := all_loop (B := B) (gap := g2) (G := G) (words := t_q14) (fun s a b => implWordsS hv a b) (by rw [e3]; exact e4) (fun r hr => by rw [e3] at hr; exact ⟨(e5 r hr).1, (e5 r hr).2.2⟩) (s0_q3 (some B) g2 G) (fun _ _ => rfl) none rfl
        obtain ⟨q', f3, f4⟩ := all_loop (B := B) (gap := g2) (G := S) (words := t_q49) (fun s a b => specWordsS hv a b) e4 (fun r hr => ⟨(e5 r hr).1, (e5 r hr).2.2⟩) (s0_q37 (some B) g2 S) (fun _ _ => rfl) (some []) rfl
        obtain ⟨l1, l2⟩ := allW_len B g2 (kDl G) fun r hr => by rw [e3] at hr; exact (e5 r hr).1
        have l3 : (kDl G).length ≤ 60 := by rw [e3]; exact e4
        refine ⟨q, q', 0, ?_, ?_, by rw [f2, f4, e3], by rw [f2]; omega, by rw [f2]; omega⟩
        · simp only [Bool.not_true, cond_false, kA2, e1, f1]
        · simp only [Bool.not_true, cond_false, kA2, e2, f3]
theorem kFh (a : Sl Box) (g1 g2 : Int) (ha : (a.getD []).length ≤ maxLen) : t_q15 a g1 g2 = some true := by
  rw [maxLen_eq] at ha
  unfold t_q15
  have ws : wr (1048576 - (((a.getD []).length : Nat) : Int)) = 1048576 - (((a.getD []).length : Nat) : Int) := kBj (by omega) (by omega)
  by_cases c1 : 1048576 - (((a.getD []).length : Nat) : Int) < 0
  · have sz : t_q25 a 1048576 = some (-1) := by
      unfold t_q25
      rw [ws]
      simp [c1]
    rw [sz, kA2]
    rfl
  have sz : t_q25 a 1048576 = some (1048576 - (((a.getD []).length : Nat) : Int)) := by
    unfold t_q25
    rw [ws]
    simp [c1]
  have d1 : decide (1048576 - (((a.getD []).length : Nat) : Int) < 0) = false := decide_eq_false c1
  rw [sz, kA2, d1, cond_false]
  obtain ⟨B, hB⟩ : ∃ B, a.getD [] = B := ⟨_, rfl⟩
  have tb := toBoxS_ok a (by omega)
  rw [hB] at tb c1 ha
  obtain ⟨g, w, n, G1, G2, hgw, hgl, hgt⟩ := reading_both B g1 g2 (by omega)
  have E1 := eqSS_ok hgw (by omega) (rows_small hgt)
  have E2 := eqB_ok (a := some B) (b := some B) rfl (by simp only [Option.getD_some]; omega)
  have M1 : t_q22 (some B) 1 = some (1 + 4 * ((B.length : Nat) : Int), some (mkB 1 B.length)) := by
    unfold t_q22
    have d1 : decide ((0 : Int) ≤ 1) = true := by decide
    have d2 : decide (1 + 4 * ((((some B : Sl Box).getD []).length : Nat) : Int) ≤ 1000000000) = true := decide_eq_true (by simp only [Option.getD_some]; omega)
    rw [d1, d2]
    rfl
  obtain ⟨v, r, M3, H, r0⟩ := marksSS g (by rw [← kDn]; omega) (by rw [totL_rows]; omega)
  have z1 : decide (1 + 4 * ((B.length : Nat) : Int) < 0) = false := decide_eq_false (by omega)
  have z2 : decide (r < 0) = false := decide_eq_false (by omega)
  simp only [tb, kA2, G1, G2, E1, E2, decide_true, Bool.not_true, cond_false, M1, z1, M3, H, z2]
theorem ok_q15 : kAs Try.prog n_q15 (G3 (fun (a : Sl Box) (_ : Int) (_ : Int) => Wt.big a) fun _ _ _ => bv true) := lawC3 tt_q15 fun a b c h => kFh a b c (big_len h)
theorem kFy (a : Sl Box) (b c : Int) (ha : Row.fine a) (_ : Row.fine b) (_ : Row.fine c) : G3 (fun (a : Sl Box) (_ : Int) (_ : Int) => Wt.big a) (fun _ _ _ => bv true) [enc a, enc b, enc c] = some (bv true) := G3_enc _ _ a b c (Wt.fb a ha)
theorem isC_2 {cs : List AV} (h : IsC Try.prog 2 cs) : ∃ x : Int, cs = Row.cells x ∧ Row.fine x := by
  obtain ⟨n, rfl, hn⟩ := IsC.intE Try.underlying2 h
  exact ⟨n, rfl, fine_int hn⟩
theorem isC_46 {cs : List AV} (h : IsC Try.prog 46 cs) : ∃ x : Box, cs = Row.cells x ∧ Row.fine x := by
  replace h := IsC.structE Try.underlying46 h
  obtain ⟨c0, r0, rfl, q0, k0⟩ := IsFs.consE h
  obtain ⟨c1, r1, rfl, q1, k1⟩ := IsFs.consE k0
  obtain ⟨c2, r2, rfl, q2, k2⟩ := IsFs.consE k1
  obtain ⟨c3, r3, rfl, q3, k3⟩ := IsFs.consE k2
  cases IsFs.nilE k3
  obtain ⟨v0, rfl, w0⟩ := isC_2 q0
  obtain ⟨v1, rfl, w1⟩ := isC_2 q1
  obtain ⟨v2, rfl, w2⟩ := isC_2 q2
  obtain ⟨v3, rfl, w3⟩ := isC_2 q3
  exact ⟨⟨v0, v1, v2, v3⟩, rfl, w0, w1, w2, w3⟩
theorem isC_22 {cs : List AV} (h : IsC Try.prog 22 cs) : ∃ x : (Sl Box), cs = Row.cells x ∧ Row.fine x := by
  rcases IsC.sliceE Try.underlying22 h with rfl | ⟨rows, rfl, h1, h2⟩
  · exact ⟨none, rfl, Sl.fineNil⟩
  · exact Sl.isC (by kernel_rfl) h1 fun row hr => isC_46 (h2 row hr)
theorem own : ownKnob Try.prog.godebug = none := by kernel_rfl
theorem laidOut : laidOutB Try.prog = true := by kernel_rfl
set_option maxRecDepth 100000 in
theorem holds : Rows.FnExactReadingOrderSaid :=
  OpenClaim.holds_of_wide 4 Try.f4 rfl rfl rfl rfl rfl rfl rfl ⟨rfl, rfl, rfl, rfl, rfl⟩ rfl rfl rfl rfl rfl (by kernel_rfl) Try.func4 (by kernel_rfl)
    (of_decide_eq_true (by kernel_rfl)) (by unfold Func.isWrapper; rw [if_neg (by decide +kernel)]; exact ⟨rfl, rfl⟩)
    (fun os started H enc _ => law_lifted (C := Try.checked) (s := Rows.fnExactReadingOrderSpec) own started (by kernel_rfl) Try.func4
      (ChangeSpec.witness6 (enc := enc) (C := Try.checked) false ⟨#[], #[.slice none 0 0, .int .i64 0, .int .i64 0], []⟩ 8 (by kernel_rfl) (by kernel_rfl) (by kernel_rfl) (by kernel_rfl))
      laidOut rfl (tb := 4) rfl Try.underlying4 (ts := [22, 46, 2]) (by kernel_rfl)
      (fun ds h => by match ds, h with | [d0, d1, d2], _ => rfl)
      hb_q15 ok_q15 (by
    intro l h
    obtain ⟨a0, l0, rfl, g0, k0⟩ := h
    obtain ⟨a1, l1, rfl, g1, k1⟩ := k0
    obtain ⟨a2, l2, rfl, g2, k2⟩ := k1
    cases k2
    obtain ⟨b0, e0, w0⟩ := isC_22 (isV_one (by kernel_rfl) g0)
    obtain rfl := one_enc e0
    obtain ⟨b1, e1, w1⟩ := isC_2 (isV_one (by kernel_rfl) g1)
    obtain rfl := one_enc e1
    obtain ⟨b2, e2, w2⟩ := isC_2 (isV_one (by kernel_rfl) g2)
    obtain rfl := one_enc e2
    exact kFy b0 b1 b2 w0 w1 w2) (by kernel_rfl))
#print axioms holds
end Go.Proofs.Ytfhffgfbnlikjaa
