/-
  The law FnExactRootFraction holds, for all arguments: it returns true, and its arguments read behind the call as before. No condition.
-/
import Derived.Test.YtfladjnggkeiaaaFnExactRootFractionGen
import Derived.Test.YtfladjnggkeiaaaRows
namespace Go.Proofs.Ytfladjnggkeiaaa
open Go Go.Eng Go.Eng.Cod
set_option maxRecDepth 100000

theorem nil_ok : EnvOK Try.prog (envL []) := E0

def within (a b c : Int) : Bool := decide (b ≤ a) && decide (a ≤ c)

theorem ok_impl_within : PureOK Try.prog n_impl_within (T3 within) := pureT3 nil_ok mixed hb_impl_within fun a b c => by
  simp [e_impl_within, within]

theorem ok_spec_l00In : PureOK Try.prog n_spec_l00In (T3 within) := pureT3 nil_ok mixed hb_spec_l00In fun a b c => by
  simp [e_spec_l00In, within]

def absI (a : Int) : Int := bif decide (a < 0) then wr (-a) else a

theorem ok_impl_abs : PureOK Try.prog n_impl_abs (T1 absI) := pureT1 nil_ok mixed hb_impl_abs fun a => by
  simp [e_impl_abs, absI]

theorem ok_spec_l05Size : PureOK Try.prog n_spec_l05Size (T1 absI) := pureT1 nil_ok mixed hb_spec_l05Size fun a => by
  simp [e_spec_l05Size, absI]

def gcdI (a b : Int) : Int := if _h : b = 0 then a else gcdI b (a.tmod b)
termination_by b.natAbs
decreasing_by
  rw [Int.natAbs_tmod]
  exact Nat.mod_lt _ (by omega)
theorem gcdI_abs (a b : Int) : (gcdI a b).natAbs = Nat.gcd a.natAbs b.natAbs := by
  induction a, b using gcdI.induct with
  | case1 a => rw [gcdI]; simp
  | case2 a b h ih => 
    rw [gcdI, dif_neg h, ih, Int.natAbs_tmod, Nat.gcd_comm, ← Nat.gcd_rec, Nat.gcd_comm]
theorem gcdI_pos (a b : Int) (ha : 0 ≤ a) (hb : 0 ≤ b) : 0 ≤ gcdI a b := by
  induction a, b using gcdI.induct with
  | case1 a => rw [gcdI]; simpa using ha
  | case2 a b h ih => 
    rw [gcdI, dif_neg h]
    exact ih hb (Int.tmod_nonneg _ ha)
def gcdN (a b : Int) : Int := (Nat.gcd a.natAbs b.natAbs : Nat)
def small (n : Int) : Bool := decide (-4611686018427387904 ≤ n) && decide (n ≤ 4611686018427387904)
theorem small_iff (n : Int) : small n = true ↔ -4611686018427387904 ≤ n ∧ n ≤ 4611686018427387904 := by simp [small]
theorem gcdN_le (a b : Int) (ha : small a = true) (hb : small b = true) : (0 : Int) ≤ gcdN a b ∧ gcdN a b ≤ 4611686018427387904 := by
  rw [small_iff] at ha hb
  unfold gcdN
  refine ⟨by omega, ?_⟩
  by_cases h : b.natAbs = 0
  · rw [h, Nat.gcd_zero_right]; omega
  · have := Nat.gcd_le_right (n := b.natAbs) a.natAbs (by omega)
    omega
theorem abs_gcdI (a b : Int) (ha : small a = true) (hb : small b = true) : absI (gcdI a b) = gcdN a b := by
  have h1 := gcdI_abs a b
  have h2 := gcdN_le a b ha hb
  unfold absI gcdN at *
  rw [← h1] at h2 ⊢
  by_cases h : gcdI a b < 0
  · simp only [h, decide_true, cond_true]
    rw [wr_id] <;> omega
  · simp only [h, decide_false, cond_false]
    omega
theorem gcdI_gcdN (a b : Int) (ha : 0 ≤ a) (hb : 0 ≤ b) : gcdI a b = gcdN a b := by
  have h1 := gcdI_abs a b
  have h2 := gcdI_pos a b ha hb
  unfold gcdN
  rw [← h1]
  omega

theorem lp_impl_gcd (env : Nat → Contract) (y2 y3 y4 y11 y12 : AV) (h : Heap) (a b : Int) : (obind (loopP hm0_impl_gcd xm0_impl_gcd (lb0_impl_gcd env) [iv a, iv b, y2, y3, y4, .top, .top, .top, .top, .top, .top, y11, y12] h) fun r => lk0_impl_gcd env r.1 r.2.1 r.2.2)
    = obind2 (aCall (env n_impl_abs) [iv (gcdI a b)] h) fun v3 h4 => some (v3, h4) := by
  induction a, b using gcdI.induct with
  | case1 a =>
    rw [loopP.eq_1, gcdI]
    simp [e_lb0_impl_gcd, restr, e_lk0x0_impl_gcd]
  | case2 a b hb ih =>
    rw [loopP.eq_1, gcdI, dif_neg hb, ← ih]
    simp [e_lb0_impl_gcd, restr, hb, aBin_rem]
theorem ok_impl_gcd : PureOK Try.prog n_impl_gcd (G2 (fun a b => small a && small b) fun a b => iv (gcdN a b)) :=
  pureG2 (E1 ok_impl_abs) mixed hb_impl_gcd fun a b h => by
  simp at h
  simp [e_impl_gcd, lp_impl_gcd, envL, abs_gcdI, h]

theorem lp_spec_l22Gcd (env : Nat → Contract) (y2 y3 y4 y11 : AV) (h : Heap) (a b : Int) : (obind (loopP hm0_spec_l22Gcd xm0_spec_l22Gcd (lb0_spec_l22Gcd env) [iv a, iv b, y2, y3, y4, .top, .top, .top, .top, .top, .top, y11] h) fun r => lk0_spec_l22Gcd env r.1 r.2.1 r.2.2)
    = some (iv (gcdI a b), h) := by
  induction a, b using gcdI.induct with
  | case1 a =>
    rw [loopP.eq_1, gcdI]
    simp [e_lb0_spec_l22Gcd, restr, e_lk0x0_spec_l22Gcd]
  | case2 a b hb ih =>
    rw [loopP.eq_1, gcdI, dif_neg hb, ← ih]
    simp [e_lb0_spec_l22Gcd, restr, hb, aBin_rem]
theorem ok_spec_l22Gcd : PureOK Try.prog n_spec_l22Gcd (G2 (fun a b => decide (0 ≤ a) && decide (0 ≤ b)) fun a b => iv (gcdN a b)) :=
  pureG2 nil_ok mixed hb_spec_l22Gcd fun a b h => by
  simp at h
  simp [e_spec_l22Gcd, lp_spec_l22Gcd, gcdI_gcdN, h]

def validFraction (f : Frac) : Bool := within f.n (-1000000000) 1000000000 && (within f.d 1 1000000000 && decide (gcdN f.n f.d = 1))
theorem within_small {n b c : Int} (h : within n b c = true) (hb : -4611686018427387904 ≤ b) (hc : c ≤ 4611686018427387904) : small n = true := by
  simp [within] at h
  simp [small]
  omega
theorem ok_impl_ValidFraction : PureOK Try.prog n_impl_ValidFraction (T1 validFraction) :=
  pureT1 (E2 ok_impl_within ok_impl_gcd) mixed hb_impl_ValidFraction fun b => by
  simp [e_impl_ValidFraction, envL, aBox, aLoad, cut, validFraction]
  cases h1 : within b.n (-1000000000) 1000000000 <;> cases h2 : within b.d 1 1000000000 <;> simp
  simp [within_small h1 (by decide) (by decide), within_small h2 (by decide) (by decide)]
theorem absI_small {n : Int} (h : small n = true) : 0 ≤ absI n ∧ (absI n).natAbs = n.natAbs := by
  rw [small_iff] at h
  unfold absI
  by_cases hn : n < 0
  · simp only [hn, decide_true, cond_true]
    rw [wr_id] <;> omega
  · rw [show decide (n < 0) = false by simpa using hn]
    exact ⟨by simp; omega, rfl⟩
theorem gcdN_absI {n d : Int} (h : small n = true) : gcdN (absI n) d = gcdN n d := by
  unfold gcdN
  rw [(absI_small h).2]
theorem ok_spec_l22Ok : PureOK Try.prog n_spec_l22Ok (T1 validFraction) :=
  pureT1 (E3 ok_spec_l00In ok_spec_l05Size ok_spec_l22Gcd) mixed hb_spec_l22Ok fun b => by
  simp [e_spec_l22Ok, envL, aBox, aLoad, cut, validFraction]
  cases h1 : within b.n (-1000000000) 1000000000 <;> cases h2 : within b.d 1 1000000000 <;> simp [h1, h2]
  have h3 : small b.n = true := within_small h1 (by decide) (by decide)
  have h4 : 0 ≤ b.d := by simp [within] at h2; omega
  simp [absI_small h3, h4, gcdN_absI h3]

theorem ok_laws_toFraction : PureOK Try.prog n_laws_toFraction (T1 fun b : Frac => b) := pureT1 nil_ok mixed hb_laws_toFraction fun b => by
  simp [e_laws_toFraction, aBox, aLoad, cut, aStore, splice, retL, resL, pack]

theorem ok_laws_eqFraction : PureOK Try.prog n_laws_eqFraction (T2 fun a b : Frac => decide (a = b)) := pureT2 nil_ok mixed hb_laws_eqFraction fun a b => by
  simp [e_laws_eqFraction, aBox, aLoad, cut]
  obtain ⟨a1, a2⟩ := a
  obtain ⟨b1, b2⟩ := b
  simp

def redF (num den : Int) : Frac := ⟨wr (num.tdiv (gcdN num den)), wr (den.tdiv (gcdN num den))⟩
def codeF (f : Frac) (ok : Bool) : Frac × Int := bif ok then (f, 0) else (⟨0, 0⟩, 2)
def redu (num den : Int) : Frac × Int := codeF (redF num den) (validFraction (redF num den))
def reduced (num den : Int) : Frac × Int := bif decide (den < 0) then redu (-num) (-den) else redu num den
theorem gcdN_ne {a b : Int} (h : b ≠ 0) : gcdN a b ≠ 0 := by
  unfold gcdN
  have : Nat.gcd a.natAbs b.natAbs ≠ 0 := fun e => h (by have := (Nat.gcd_eq_zero_iff.1 e).2; omega)
  omega
theorem gcdN_neg (a b : Int) : gcdN (-a) (-b) = gcdN a b := by
  unfold gcdN
  simp
theorem small_neg {a : Int} (h : small a = true) : small (-a) = true := by
  rw [small_iff] at *
  omega
theorem small_wr {a : Int} (h : small a = true) : wr (0 - a) = -a := by
  rw [small_iff] at h
  rw [wr_id] <;> omega
theorem gcdN_small {a b : Int} (ha : small a = true) (hb : small b = true) : small (gcdN a b) = true := by
  have := gcdN_le a b ha hb
  rw [small_iff]
  omega

def addFractions (a b : Frac) : Frac × Int := bif validFraction a && validFraction b then reduced (wr (wr (a.n * b.d) + wr (b.n * a.d))) (wr (a.d * b.d)) else (⟨0, 0⟩, 1)
def timesFractions (a b : Frac) : Frac × Int := bif validFraction a && validFraction b then reduced (wr (a.n * b.n)) (wr (a.d * b.d)) else (⟨0, 0⟩, 1)
theorem validF_range {f : Frac} (h : validFraction f = true) : (-1000000000 ≤ f.n ∧ f.n ≤ 1000000000) ∧ (1 ≤ f.d ∧ f.d ≤ 1000000000) := by
  simp [validFraction, within] at h
  omega
theorem mul_range {a b : Int} (ha : -1000000000 ≤ a ∧ a ≤ 1000000000) (hb : -1000000000 ≤ b ∧ b ≤ 1000000000) : -1000000000000000000 ≤ a * b ∧ a * b ≤ 1000000000000000000 := by
  have h1 : a.natAbs ≤ 1000000000 := by omega
  have h2 : b.natAbs ≤ 1000000000 := by omega
  have h3 := Nat.mul_le_mul h1 h2
  rw [← Int.natAbs_mul] at h3
  omega
theorem prodF {a b : Frac} (ha : validFraction a = true) (hb : validFraction b = true) :
    (small (wr (a.n * b.n)) = true ∧ small (wr (wr (a.n * b.d) + wr (b.n * a.d))) = true) ∧ small (wr (a.d * b.d)) = true ∧ 0 < wr (a.d * b.d) := by
  have h1 := validF_range ha
  have h2 := validF_range hb
  have m1 := mul_range h1.1 h2.1
  have m2 := mul_range (a := a.n) (b := b.d) h1.1 (by omega)
  have m3 := mul_range (a := b.n) (b := a.d) h2.1 (by omega)
  have m4 := mul_range (a := a.d) (b := b.d) (by omega) (by omega)
  have m5 : 0 < a.d * b.d := Int.mul_pos (by omega) (by omega)
  have w1 : wr (a.n * b.n) = a.n * b.n := wr_id (by omega) (by omega)
  have w2 : wr (a.n * b.d) = a.n * b.d := wr_id (by omega) (by omega)
  have w3 : wr (b.n * a.d) = b.n * a.d := wr_id (by omega) (by omega)
  have w4 : wr (a.d * b.d) = a.d * b.d := wr_id (by omega) (by omega)
  have w5 : wr (a.n * b.d + b.n * a.d) = a.n * b.d + b.n * a.d := wr_id (by omega) (by omega)
  rw [w1, w2, w3, w4, w5]
  simp only [small_iff]
  omega
theorem reduced_pos {a b : Int} (h : 0 < b) : reduced a b = codeF (redF a b) (validFraction (redF a b)) := by
  have : decide (b < 0) = false := by simp; omega
  simp [reduced, this, redu]

def isq : Nat → Nat
  | 0 => 0
  | n + 1 => bif decide ((isq n + 1) * (isq n + 1) ≤ n + 1) then isq n + 1 else isq n
theorem isq_spec : ∀ n, isq n * isq n ≤ n ∧ n < (isq n + 1) * (isq n + 1)
  | 0 => by simp [isq]
  | n + 1 => by
    obtain ⟨h1, h2⟩ := isq_spec n
    unfold isq
    by_cases h : (isq n + 1) * (isq n + 1) ≤ n + 1
    · simp only [h, decide_true, cond_true]
      refine ⟨trivial, ?_⟩
      have : (isq n + 1 + 1) * (isq n + 1 + 1) = (isq n + 1) * (isq n + 1) + 2 * (isq n + 1) + 1 := by
        simp only [Nat.mul_add, Nat.add_mul]
        omega
      omega
    · simp only [h, decide_false, cond_false]
      omega
theorem isq_uniq {n r : Nat} (h1 : r * r ≤ n) (h2 : n < (r + 1) * (r + 1)) : r = isq n := by
  obtain ⟨g1, g2⟩ := isq_spec n
  rcases Nat.lt_trichotomy r (isq n) with h | h | h
  · have := Nat.mul_le_mul (show r + 1 ≤ isq n from h) (show r + 1 ≤ isq n from h)
    omega
  · exact h
  · have := Nat.mul_le_mul (show isq n + 1 ≤ r from h) (show isq n + 1 ≤ r from h)
    omega
theorem sq_ge (a b : Nat) : 4 * (a * b) ≤ (a + b) * (a + b) := by
  rcases Nat.le_total a b with h | h
  · obtain ⟨k, rfl⟩ := Nat.exists_eq_add_of_le h
    have h1 : a * (a + k) = a * a + a * k := Nat.mul_add _ _ _
    have h2 : (a + (a + k)) * (a + (a + k)) = 4 * (a * a) + 4 * (a * k) + k * k := by
      simp only [Nat.mul_add, Nat.add_mul]
      have := Nat.mul_comm k a
      omega
    omega
  · obtain ⟨k, rfl⟩ := Nat.exists_eq_add_of_le h
    have h1 : (b + k) * b = b * b + b * k := by rw [Nat.add_mul, Nat.mul_comm k b]
    have h2 : (b + k + b) * (b + k + b) = 4 * (b * b) + 4 * (b * k) + k * k := by
      simp only [Nat.mul_add, Nat.add_mul]
      have := Nat.mul_comm k b
      omega
    omega
/-- One step of the iteration stays above. -/
theorem newton_above (n r : Nat) (hr : 0 < r) : n < ((r + n / r) / 2 + 1) * ((r + n / r) / 2 + 1) := by
  have h1 : n < r * (n / r + 1) := by
    have := Nat.lt_mul_div_succ n hr
    exact this
  have h2 := sq_ge r (n / r + 1)
  have h3 : r + (n / r + 1) ≤ 2 * ((r + n / r) / 2 + 1) := by omega
  have h4 := Nat.mul_le_mul h3 h3
  have h5 : 2 * ((r + n / r) / 2 + 1) * (2 * ((r + n / r) / 2 + 1)) = 4 * (((r + n / r) / 2 + 1) * ((r + n / r) / 2 + 1)) := by
    generalize (r + n / r) / 2 + 1 = t
    have : 2 * t * (2 * t) = 2 * (t * (2 * t)) := Nat.mul_assoc _ _ _
    have h : t * (2 * t) = 2 * (t * t) := Nat.mul_left_comm _ _ _
    omega
  omega
theorem newton_stop {n r : Nat} (hr : 0 < r) (h : r ≤ (r + n / r) / 2) : r * r ≤ n := by
  have h1 : r ≤ n / r := by omega
  have h2 := Nat.mul_le_mul (Nat.le_refl r) h1
  have h3 := Nat.mul_div_le n r
  omega

theorem tdiv_two (a : Nat) : (a : Int).tdiv 2 = ((a / 2 : Nat) : Int) := by
  exact (Int.ofNat_tdiv a 2).symm
theorem lp_spec_l05Root (env : Nat → Contract) {y1 y2 y22 : AV} (h : Heap) (n : Nat) (hn : n ≤ 1000000000) : ∀ (k lo hi : Nat), hi - lo ≤ k → lo ≤ hi → hi ≤ 40000000 → lo * lo ≤ n → n < (hi + 1) * (hi + 1) →
    (obind (loopP hm0_spec_l05Root xm0_spec_l05Root (lb0_spec_l05Root env) [iv (n : Nat), y1, y2, iv (lo : Nat), iv (hi : Nat), .top, .top, .top, .top, .top, .top, .top, .top, .top, .top, .top, .top, .top, .top, .top, .top, .top, y22] h) fun r => lk0_spec_l05Root env r.1 r.2.1 r.2.2) = some (iv (isq n : Nat), h) := by
  intro k
  induction k with
  | zero =>
    intro lo hi h1 h2 h3 h4 h5
    have e : lo = hi := by omega
    subst e
    rw [loopP.eq_1]
    have := isq_uniq h4 h5
    simp [e_lb0_spec_l05Root, restr, e_lk0x0_spec_l05Root, ← this]
  | succ k ih =>
    intro lo hi h1 h2 h3 h4 h5
    by_cases e : lo < hi
    · have a1 : wr ((lo : Int) + (hi : Int)) = ((lo + hi : Nat) : Int) := by rw [wr_id (by omega) (by omega)]; omega
      have a2 : wr (((lo + hi : Nat) : Int) + 1) = ((lo + hi + 1 : Nat) : Int) := by rw [wr_id (by omega) (by omega)]; omega
      have a3 := tdiv_two (lo + hi + 1)
      obtain ⟨m, hm⟩ : ∃ m, (lo + hi + 1) / 2 = m := ⟨_, rfl⟩
      rw [hm] at a3
      have m1 : lo < m := by omega
      have m2 : m ≤ hi := by omega
      have m3 : m * m ≤ 40000000 * 40000000 := Nat.mul_le_mul (by omega) (by omega)
      have a4 : wr ((m : Nat) : Int) = (m : Nat) := wr_id (by omega) (by omega)
      have a6 : ((m : Nat) : Int) * (m : Nat) = ((m * m : Nat) : Int) := by simp
      have a5 : wr (((m * m : Nat) : Int)) = ((m * m : Nat) : Int) := wr_id (by omega) (by omega)
      have a7 : wr ((m : Int) - 1) = ((m - 1 : Nat) : Int) := by rw [wr_id (by omega) (by omega)]; omega
      rw [loopP.eq_1]
      by_cases g : m * m ≤ n
      · have r := ih m hi (by omega) m2 h3 g h5
        have g' : ((m * m : Nat) : Int) ≤ (n : Int) := by omega
        simp only [e_lb0_spec_l05Root, aBin_lss, aBin_add, aBin_leq, aBin_mul, aBin_sub, aBin_quo _ 2 (by decide), obind_sm, condB_bv, a1, a2, a3, a4, a6, a5, show ((lo : Int) < hi) from by omega, decide_true, cond_true, g', restr, cond_false]
        exact r
      · have hp : m - 1 + 1 = m := by omega
        have r := ih lo (m - 1) (by omega) (by omega) (by omega) h4 (by rw [hp]; omega)
        have g' : ¬ ((m * m : Nat) : Int) ≤ (n : Int) := by omega
        simp only [e_lb0_spec_l05Root, aBin_lss, aBin_add, aBin_leq, aBin_mul, aBin_sub, aBin_quo _ 2 (by decide), obind_sm, condB_bv, a1, a2, a3, a4, a6, a5, a7, show ((lo : Int) < hi) from by omega, decide_true, decide_false, cond_true, g', restr, cond_false]
        exact r
    · have e : lo = hi := by omega
      subst e
      rw [loopP.eq_1]
      have := isq_uniq h4 h5
      simp [e_lb0_spec_l05Root, restr, e_lk0x0_spec_l05Root, ← this]
theorem ok_spec_l05Root : PureOK Try.prog n_spec_l05Root (G1 (fun n : Int => decide (0 ≤ n) && decide (n ≤ 1000000000)) fun n => iv (isq n.toNat : Nat)) :=
  pureG1 E0 mixed hb_spec_l05Root fun n h => by
  simp at h
  obtain ⟨m, rfl⟩ := Int.eq_ofNat_of_zero_le h.1
  have L := fun env {y1 y2 y22} => @lp_spec_l05Root env y1 y2 y22 [] m (by omega) 40000000 0 40000000 (by omega) (by omega) (by omega) (by omega) (by omega)
  simp at L
  simp [e_spec_l05Root, L]

theorem tdiv_nat (a b : Nat) : (a : Int).tdiv b = ((a / b : Nat) : Int) := (Int.ofNat_tdiv a b).symm
theorem lp_impl_rootOf (env : Nat → Contract) {y1 y2 y5 y6 y7 y8 y9 y10 y11 y12 y13 y14 y15 y16 y17 y18 y29 : AV} (h : Heap) (n : Nat) (hn : n ≤ 1000000000) (h0 : 0 < n) : ∀ (k r : Nat), r ≤ k → 0 < r → r ≤ 1000000 → n < (r + 1) * (r + 1) →
    (obind (loopP hm0_impl_rootOf xm0_impl_rootOf (lb0_impl_rootOf env) [iv (n : Nat), y1, y2, iv (r : Nat), iv ((r + n / r) / 2 : Nat), y5, y6, y7, y8, y9, y10, y11, y12, y13, y14, y15, y16, y17, y18, .top, .top, .top, .top, .top, .top, .top, .top, .top, .top, y29] h) fun r => lk0_impl_rootOf env r.1 r.2.1 r.2.2) = some (iv (isq n : Nat), h) := by
  intro k
  induction k with
  | zero => intro r h1 h2; omega
  | succ k ih =>
    intro r h1 h2 h3 h4
    rw [loopP.eq_1]
    by_cases g : (r + n / r) / 2 < r
    · obtain ⟨t, ht⟩ : ∃ t, (r + n / r) / 2 = t := ⟨_, rfl⟩
      have n1 := newton_above n r h2
      rw [ht] at n1 g
      have t0 : 0 < t := by
        rcases Nat.lt_or_ge 0 t with h | h
        · exact h
        · have e : t = 0 := by omega
          subst e
          omega
      have q1 : n / t ≤ n := Nat.div_le_self _ _
      have ih' := ih t (by omega) t0 (by omega) n1
      obtain ⟨q, hq⟩ : ∃ q, n / t = q := ⟨_, rfl⟩
      rw [hq] at q1 ih'
      have a0 : wr (((q : Nat) : Int)) = ((q : Nat) : Int) := wr_id (by omega) (by omega)
      have a1 : wr ((t : Int) + ((q : Nat) : Int)) = ((t + q : Nat) : Int) := by rw [wr_id (by omega) (by omega)]; omega
      have a2 := tdiv_two (t + q)
      have a3 : wr ((((t + q) / 2 : Nat) : Int)) = (((t + q) / 2 : Nat) : Int) := wr_id (by omega) (by omega)
      have tz : ((t : Nat) : Int) ≠ 0 := by omega
      simp only [e_lb0_impl_rootOf, ht, aBin_lss, aBin_add, aBin_quo _ ((t : Nat) : Int) tz, aBin_quo _ 2 (by decide), tdiv_nat n t, hq, obind_sm, condB_bv, a0, a1, a2, a3, show ((t : Int) < r) from by omega, decide_true, cond_true, restr, cond_false]
      exact ih'
    · have e := isq_uniq (newton_stop h2 (by omega)) h4
      have g' : ¬ ((((r + n / r) / 2 : Nat) : Int) < (r : Int)) := by omega
      simp only [e_lb0_impl_rootOf, aBin_lss, obind_sm, condB_bv, g', decide_false, cond_false, restr, cond_true, e_lk0x0_impl_rootOf, ← e]

def tabL : List Nat := [0, 1, 2, 2, 3, 3, 3, 3, 4, 4, 4, 4, 4, 4, 4, 4, 5, 5, 5, 5, 5, 5, 5, 5, 5, 5, 5, 5, 5, 5, 5, 5, 6, 6, 6, 6, 6, 6, 6, 6, 6, 6, 6, 6, 6, 6, 6, 6, 6, 6, 6, 6, 6, 6, 6, 6, 6, 6, 6, 6, 6, 6, 6, 6, 7, 7, 7, 7, 7, 7, 7, 7, 7, 7, 7, 7, 7, 7, 7, 7, 7, 7, 7, 7, 7, 7, 7, 7, 7, 7, 7, 7, 7, 7, 7, 7, 7, 7, 7, 7, 7, 7, 7, 7, 7, 7, 7, 7, 7, 7, 7, 7, 7, 7, 7, 7, 7, 7, 7, 7, 7, 7, 7, 7, 7, 7, 7, 7, 8, 8, 8, 8, 8, 8, 8, 8, 8, 8, 8, 8, 8, 8, 8, 8, 8, 8, 8, 8, 8, 8, 8, 8, 8, 8, 8, 8, 8, 8, 8, 8, 8, 8, 8, 8, 8, 8, 8, 8, 8, 8, 8, 8, 8, 8, 8, 8, 8, 8, 8, 8, 8, 8, 8, 8, 8, 8, 8, 8, 8, 8, 8, 8, 8, 8, 8, 8, 8, 8, 8, 8, 8, 8, 8, 8, 8, 8, 8, 8, 8, 8, 8, 8, 8, 8, 8, 8, 8, 8, 8, 8, 8, 8, 8, 8, 8, 8, 8, 8, 8, 8, 8, 8, 8, 8, 8, 8, 8, 8, 8, 8, 8, 8, 8, 8, 8, 8, 8, 8, 8, 8, 8, 8, 8, 8, 8, 8]
def len32 (n : Nat) : Nat := if 65536 ≤ n then (if 256 ≤ n / 65536 then 24 + tabL.getD (n / 65536 / 256) 0 else 16 + tabL.getD (n / 65536) 0) else if 256 ≤ n then 8 + tabL.getD (n / 256) 0 else tabL.getD n 0
theorem tab_ok : ∀ k : Fin 256, k.val < 2 ^ (tabL.getD k.val 0) ∧ tabL.getD k.val 0 ≤ 8 := by decide +kernel
theorem tab_ok' {k : Nat} (h : k < 256) : k < 2 ^ (tabL.getD k 0) ∧ tabL.getD k 0 ≤ 8 := tab_ok ⟨k, h⟩
theorem pow_div {n a b : Nat} (h : n / 2 ^ a < 2 ^ b) : n < 2 ^ (a + b) := by
  rw [Nat.pow_add, Nat.mul_comm]
  exact (Nat.div_lt_iff_lt_mul (Nat.two_pow_pos a)).1 h
theorem len32_ok {n : Nat} (h : n < 4294967296) : n < 2 ^ (len32 n) ∧ len32 n ≤ 32 := by
  unfold len32
  split
  · split
    · obtain ⟨t1, t2⟩ := tab_ok' (k := n / 65536 / 256) (by omega)
      have e : n / 65536 / 256 = n / 2 ^ 24 := by rw [Nat.div_div_eq_div_mul]
      rw [e] at t1 ⊢
      exact ⟨pow_div t1, by rw [e] at t2; omega⟩
    · obtain ⟨t1, t2⟩ := tab_ok' (k := n / 65536) (by omega)
      exact ⟨pow_div (a := 16) t1, by omega⟩
  · split
    · obtain ⟨t1, t2⟩ := tab_ok' (k := n / 256) (by omega)
      exact ⟨pow_div (a := 8) t1, by omega⟩
    · obtain ⟨t1, t2⟩ := tab_ok' (k := n) (by omega)
      exact ⟨t1, by omega⟩

structure U64 where
  val : Nat
instance : Cod U64 where
  enc u := .sc (.int .u64 (u.val : Int))
  dec | .sc (.int .u64 n) => if 0 ≤ n then some ⟨n.toNat⟩ else none
      | _ => none
  de u := by simp
  ed x a h := by
    split at h
    · split at h
      · rename_i n hn
        cases h
        simp only
        congr 2
        omega
      · cases h
    · cases h
theorem u_geq (n m : Nat) : aBin .geq (.sc (.int .u64 (n : Int))) (.sc (.int .u64 (m : Int))) = some (bv (decide (m ≤ n))) := by
  have : aBin .geq (.sc (.int .u64 (n : Int))) (.sc (.int .u64 (m : Int))) = some (bv (decide ((m : Int) ≤ (n : Int)))) := rfl
  rw [this]
  congr 3
  exact propext ⟨by omega, by omega⟩
theorem u_shr (n m : Nat) (hm : m ≤ 64) : aBin .shr (.sc (.int .u64 (n : Int))) (.sc (.int .u64 (m : Int))) = some (.sc (.int .u64 ((n / 2 ^ m : Nat) : Int))) := by
  have h0 : aBin .shr (.sc (.int .u64 (n : Int))) (.sc (.int .u64 (m : Int))) = if (0 : Int) ≤ (m : Int) then some (.sc (.int .u64 ((n : Int).fdiv (2 ^ (min ((m : Int)).toNat IntKind.u64.bits))))) else none := rfl
  rw [h0, if_pos (by omega)]
  have h1 : min ((m : Int)).toNat IntKind.u64.bits = m := by
    have : IntKind.u64.bits = 64 := rfl
    rw [this, Int.toNat_natCast]
    omega
  rw [h1, Int.fdiv_eq_ediv_of_nonneg _ (by exact Int.le_of_lt (Int.pow_pos (by decide)))]
  simp
theorem u_conv8 (n : Nat) (h : n < 256) : aConvInt .u8 (.sc (.int .u64 (n : Int))) = some (.sc (.int .u8 (n : Int))) := by
  have h0 : aConvInt .u8 (.sc (.int .u64 (n : Int))) = some (.sc (.int .u8 (IntKind.u8.wrap n))) := rfl
  rw [h0]
  congr 3
  simp only [IntKind.wrap, IntKind.bits, IntKind.signed]
  simp
  omega
theorem conv_i64 (n : Nat) (h : n < 256) : aConvInt .i64 (.sc (.int .u8 (n : Int))) = some (iv (n : Nat)) := by
  have h0 : aConvInt .i64 (.sc (.int .u8 (n : Int))) = some (iv (wr (n : Int))) := rfl
  rw [h0, wr_id (by omega) (by omega)]

theorem tab_at : ∀ k : Fin 256, ((bl ⟨#[0, 1, 2, 2, 3, 3, 3, 3, 4, 4, 4, 4, 4, 4, 4, 4, 5, 5, 5, 5, 5, 5, 5, 5, 5, 5, 5, 5, 5, 5, 5, 5, 6, 6, 6, 6, 6, 6, 6, 6, 6, 6, 6, 6, 6, 6, 6, 6, 6, 6, 6, 6, 6, 6, 6, 6, 6, 6, 6, 6, 6, 6, 6, 6, 7, 7, 7, 7, 7, 7, 7, 7, 7, 7, 7, 7, 7, 7, 7, 7, 7, 7, 7, 7, 7, 7, 7, 7, 7, 7, 7, 7, 7, 7, 7, 7, 7, 7, 7, 7, 7, 7, 7, 7, 7, 7, 7, 7, 7, 7, 7, 7, 7, 7, 7, 7, 7, 7, 7, 7, 7, 7, 7, 7, 7, 7, 7, 7, 8, 8, 8, 8, 8, 8, 8, 8, 8, 8, 8, 8, 8, 8, 8, 8, 8, 8, 8, 8, 8, 8, 8, 8, 8, 8, 8, 8, 8, 8, 8, 8, 8, 8, 8, 8, 8, 8, 8, 8, 8, 8, 8, 8, 8, 8, 8, 8, 8, 8, 8, 8, 8, 8, 8, 8, 8, 8, 8, 8, 8, 8, 8, 8, 8, 8, 8, 8, 8, 8, 8, 8, 8, 8, 8, 8, 8, 8, 8, 8, 8, 8, 8, 8, 8, 8, 8, 8, 8, 8, 8, 8, 8, 8, 8, 8, 8, 8, 8, 8, 8, 8, 8, 8, 8, 8, 8, 8, 8, 8, 8, 8, 8, 8, 8, 8, 8, 8, 8, 8, 8, 8, 8, 8, 8, 8, 8, 8]⟩)[k.val]?).map (fun b => b.toNat) = some (tabL.getD k.val 0) := by decide +kernel
theorem tab_idx {m : Nat} (h : m < 256) : aIndexStr (sv ⟨#[0, 1, 2, 2, 3, 3, 3, 3, 4, 4, 4, 4, 4, 4, 4, 4, 5, 5, 5, 5, 5, 5, 5, 5, 5, 5, 5, 5, 5, 5, 5, 5, 6, 6, 6, 6, 6, 6, 6, 6, 6, 6, 6, 6, 6, 6, 6, 6, 6, 6, 6, 6, 6, 6, 6, 6, 6, 6, 6, 6, 6, 6, 6, 6, 7, 7, 7, 7, 7, 7, 7, 7, 7, 7, 7, 7, 7, 7, 7, 7, 7, 7, 7, 7, 7, 7, 7, 7, 7, 7, 7, 7, 7, 7, 7, 7, 7, 7, 7, 7, 7, 7, 7, 7, 7, 7, 7, 7, 7, 7, 7, 7, 7, 7, 7, 7, 7, 7, 7, 7, 7, 7, 7, 7, 7, 7, 7, 7, 8, 8, 8, 8, 8, 8, 8, 8, 8, 8, 8, 8, 8, 8, 8, 8, 8, 8, 8, 8, 8, 8, 8, 8, 8, 8, 8, 8, 8, 8, 8, 8, 8, 8, 8, 8, 8, 8, 8, 8, 8, 8, 8, 8, 8, 8, 8, 8, 8, 8, 8, 8, 8, 8, 8, 8, 8, 8, 8, 8, 8, 8, 8, 8, 8, 8, 8, 8, 8, 8, 8, 8, 8, 8, 8, 8, 8, 8, 8, 8, 8, 8, 8, 8, 8, 8, 8, 8, 8, 8, 8, 8, 8, 8, 8, 8, 8, 8, 8, 8, 8, 8, 8, 8, 8, 8, 8, 8, 8, 8, 8, 8, 8, 8, 8, 8, 8, 8, 8, 8, 8, 8, 8, 8, 8, 8, 8, 8]⟩) (.sc (.int .u8 (m : Int))) = some (.sc (.int .u8 ((tabL.getD m 0 : Nat) : Int))) := by
  have h1 := tab_at ⟨m, h⟩
  have h2 : idx (.sc (.int .u8 (m : Int))) 256 = some m := by
    show (if (0 : Int) ≤ (m : Int) ∧ (m : Int) < ((256 : Nat) : Int) then some ((m : Int)).toNat else none) = _
    rw [if_pos (by omega)]
    simp
  rw [idx_str]
  have h3 : (⟨#[0, 1, 2, 2, 3, 3, 3, 3, 4, 4, 4, 4, 4, 4, 4, 4, 5, 5, 5, 5, 5, 5, 5, 5, 5, 5, 5, 5, 5, 5, 5, 5, 6, 6, 6, 6, 6, 6, 6, 6, 6, 6, 6, 6, 6, 6, 6, 6, 6, 6, 6, 6, 6, 6, 6, 6, 6, 6, 6, 6, 6, 6, 6, 6, 7, 7, 7, 7, 7, 7, 7, 7, 7, 7, 7, 7, 7, 7, 7, 7, 7, 7, 7, 7, 7, 7, 7, 7, 7, 7, 7, 7, 7, 7, 7, 7, 7, 7, 7, 7, 7, 7, 7, 7, 7, 7, 7, 7, 7, 7, 7, 7, 7, 7, 7, 7, 7, 7, 7, 7, 7, 7, 7, 7, 7, 7, 7, 7, 8, 8, 8, 8, 8, 8, 8, 8, 8, 8, 8, 8, 8, 8, 8, 8, 8, 8, 8, 8, 8, 8, 8, 8, 8, 8, 8, 8, 8, 8, 8, 8, 8, 8, 8, 8, 8, 8, 8, 8, 8, 8, 8, 8, 8, 8, 8, 8, 8, 8, 8, 8, 8, 8, 8, 8, 8, 8, 8, 8, 8, 8, 8, 8, 8, 8, 8, 8, 8, 8, 8, 8, 8, 8, 8, 8, 8, 8, 8, 8, 8, 8, 8, 8, 8, 8, 8, 8, 8, 8, 8, 8, 8, 8, 8, 8, 8, 8, 8, 8, 8, 8, 8, 8, 8, 8, 8, 8, 8, 8, 8, 8, 8, 8, 8, 8, 8, 8, 8, 8, 8, 8, 8, 8, 8, 8, 8, 8]⟩ : ByteArray).size = 256 := rfl
  rw [h3, h2, obind_sm]
  obtain ⟨b, e1, e2⟩ := Option.map_eq_some_iff.1 h1
  simp only at e1 e2
  rw [e1, ← e2]
  rfl
theorem ok_math_bits_Len64 : PureOK Try.prog n_math_bits_Len64 (G1 (fun u : U64 => decide (u.val < 4294967296)) fun u => iv (len32 u.val : Nat)) :=
  pureG1 E0 mixed hb_math_bits_Len64 fun u h => by
  obtain ⟨n⟩ := u
  have hn : n < 4294967296 := of_decide_eq_true h
  have d1 : n / 2 ^ 16 = n / 65536 := rfl
  have d2 : n / 65536 / 2 ^ 8 = n / 65536 / 256 := rfl
  have d3 : n / 2 ^ 8 = n / 256 := rfl
  have g1 : aBin .geq (.sc (.int .u64 (n : Int))) (.sc (.int .u64 4294967296)) = some (bv (decide (4294967296 ≤ n))) := u_geq n 4294967296
  have g2 : aBin .geq (.sc (.int .u64 (n : Int))) (.sc (.int .u64 65536)) = some (bv (decide (65536 ≤ n))) := u_geq n 65536
  have g3 : aBin .geq (.sc (.int .u64 (n : Int))) (.sc (.int .u64 256)) = some (bv (decide (256 ≤ n))) := u_geq n 256
  have g4 : aBin .geq (.sc (.int .u64 ((n / 65536 : Nat) : Int))) (.sc (.int .u64 256)) = some (bv (decide (256 ≤ n / 65536))) := u_geq (n / 65536) 256
  have s1 : aBin .shr (.sc (.int .u64 (n : Int))) (.sc (.int .u64 16)) = some (.sc (.int .u64 ((n / 65536 : Nat) : Int))) := u_shr n 16 (by decide)
  have s2 : aBin .shr (.sc (.int .u64 ((n / 65536 : Nat) : Int))) (.sc (.int .u64 8)) = some (.sc (.int .u64 ((n / 65536 / 256 : Nat) : Int))) := u_shr (n / 65536) 8 (by decide)
  have s3 : aBin .shr (.sc (.int .u64 (n : Int))) (.sc (.int .u64 8)) = some (.sc (.int .u64 ((n / 256 : Nat) : Int))) := u_shr n 8 (by decide)
  have w0 : ∀ (a : Int) (t : Nat), 0 ≤ a → a ≤ 100 → t ≤ 8 → wr (a + (t : Int)) = a + (t : Int) := fun a t h1 h2 h3 => wr_id (by omega) (by omega)
  have w16 : wr 16 = 16 := by decide
  have w8 : wr 8 = 8 := by decide
  have v24 : wr 24 = 24 := by decide
  have e0 : enc (⟨n⟩ : U64) = .sc (.int .u64 (n : Int)) := rfl
  have g0 : ¬ 4294967296 ≤ n := by omega
  rw [e_math_bits_Len64, e0]
  simp only [g1, g0, obind_sm, condB_bv, decide_false, cond_false, g2]
  unfold len32
  by_cases c1 : 65536 ≤ n
  · simp only [c1, decide_true, cond_true, s1, obind_sm, condB_bv, g4, if_true]
    by_cases c2 : 256 ≤ n / 65536
    · have t := (tab_ok' (k := n / 65536 / 256) (by omega)).2
      have w24 : wr (16 + 8) = 24 := by decide
      have k := conv_i64 _ (Nat.lt_of_le_of_lt t (by decide))
      simp only [c2, decide_true, cond_true, s2, obind_sm, if_true, u_conv8 (n / 65536 / 256) (by omega), tab_idx (m := n / 65536 / 256) (by omega), k, aBin_add]
      have w1 := w0 24 _ (by decide) (by decide) t
      simp at w1
      simp [w16, w8, w24, v24, w1]
    · have t := (tab_ok' (k := n / 65536) (by omega)).2
      have k := conv_i64 _ (Nat.lt_of_le_of_lt t (by decide))
      simp only [c2, decide_false, cond_false, obind_sm, if_false, u_conv8 (n / 65536) (by omega), tab_idx (m := n / 65536) (by omega), k, aBin_add]
      have w1 := w0 16 _ (by decide) (by decide) t
      simp at w1
      simp [w16, w1]
  · simp only [c1, decide_false, cond_false, condB_bv, g3, obind_sm, if_false]
    by_cases c2 : 256 ≤ n
    · have t := (tab_ok' (k := n / 256) (by omega)).2
      have k := conv_i64 _ (Nat.lt_of_le_of_lt t (by decide))
      simp only [c2, decide_true, cond_true, s3, obind_sm, if_true, u_conv8 (n / 256) (by omega), tab_idx (m := n / 256) (by omega), k, aBin_add]
      have w1 := w0 8 _ (by decide) (by decide) t
      simp at w1
      simp [w8, w1]
    · have t := (tab_ok' (k := n) (by omega)).2
      have k := conv_i64 _ (Nat.lt_of_le_of_lt t (by decide))
      simp only [c2, decide_false, cond_false, obind_sm, if_false, u_conv8 n (by omega), tab_idx (m := n) (by omega), k, aBin_add]
      have w1 := w0 0 _ (by decide) (by decide) t
      simp at w1
      simp [w1]

theorem shl_one {k : Nat} (h : k ≤ 20) : aBin .shl (iv 1) (iv (k : Int)) = some (iv ((2 ^ k : Nat) : Int)) := by
  have h0 : aBin .shl (iv 1) (iv (k : Int)) = if (0 : Int) ≤ (k : Int) then some (iv (wr (1 * 2 ^ (min ((k : Int)).toNat IntKind.i64.bits)))) else none := rfl
  rw [h0, if_pos (by omega)]
  have h1 : min ((k : Int)).toNat IntKind.i64.bits = k := by
    have : IntKind.i64.bits = 64 := rfl
    rw [this, Int.toNat_natCast]
    omega
  have h2 : 2 ^ k ≤ 2 ^ 20 := Nat.pow_le_pow_right (by decide) h
  have h3 : (1 * 2 ^ k : Int) = ((2 ^ k : Nat) : Int) := by simp
  rw [h1, h3]
  obtain ⟨r, hr⟩ : ∃ r, 2 ^ k = r := ⟨_, rfl⟩
  rw [hr] at h2 ⊢
  rw [wr_id (by omega) (by omega)]
theorem ok_impl_rootOf : PureOK Try.prog n_impl_rootOf (G1 (fun n : Int => decide (0 ≤ n) && decide (n ≤ 1000000000)) fun n => iv (isq n.toNat : Nat)) :=
  pureG1 (E1 ok_math_bits_Len64) mixed hb_impl_rootOf fun n h => by
  simp at h
  obtain ⟨m, rfl⟩ := Int.eq_ofNat_of_zero_le h.1
  have hm : m ≤ 1000000000 := by omega
  by_cases hz : m = 0
  · subst hz
    simp [e_impl_rootOf, isq]
  · have hz' : ¬ ((m : Nat) : Int) = 0 := by omega
    obtain ⟨l1, l2⟩ := len32_ok (n := m) (by omega)
    obtain ⟨L, hL⟩ : ∃ L, len32 m = L := ⟨_, rfl⟩
    rw [hL] at l1 l2
    obtain ⟨k, hk⟩ : ∃ k, (L + 1) / 2 = k := ⟨_, rfl⟩
    have hk16 : k ≤ 16 := by omega
    have p1 : 2 ^ k ≤ 2 ^ 16 := Nat.pow_le_pow_right (by decide) hk16
    have p2 : 0 < 2 ^ k := Nat.two_pow_pos k
    have p3 : 2 ^ L ≤ 2 ^ (k + k) := Nat.pow_le_pow_right (by decide) (by omega)
    rw [Nat.pow_add] at p3
    obtain ⟨r, hr⟩ : ∃ r, 2 ^ k = r := ⟨_, rfl⟩
    have sh := shl_one (k := k) (by omega)
    rw [hr] at p1 p2 p3 sh
    have p4 : r * r ≤ (r + 1) * (r + 1) := Nat.mul_le_mul (by omega) (by omega)
    obtain ⟨q, hq⟩ : ∃ q, m / r = q := ⟨_, rfl⟩
    have q1 : q ≤ m := by rw [← hq]; exact Nat.div_le_self _ _
    have cu : aConvInt .u64 (iv (m : Int)) = some (.sc (.int .u64 (m : Int))) := by
      have h0 : aConvInt .u64 (iv (m : Int)) = some (.sc (.int .u64 (IntKind.u64.wrap m))) := rfl
      rw [h0]
      congr 3
      simp only [IntKind.wrap, IntKind.bits, IntKind.signed]
      simp
      omega
    have sn : ∀ h, snapD h (.sc (.int .u64 (m : Int))) = some (⟨m⟩ : U64) := fun h => Cod.de (⟨m⟩ : U64)
    have a0 : wr ((L : Int) + 1) = ((L + 1 : Nat) : Int) := by rw [wr_id (by omega) (by omega)]; omega
    have a1 := tdiv_two (L + 1)
    rw [hk] at a1
    have a2 : wr ((k : Nat) : Int) = (k : Nat) := wr_id (by omega) (by omega)
    have a3 := tdiv_nat m r
    rw [hq] at a3
    have a4 : wr ((q : Nat) : Int) = (q : Nat) := wr_id (by omega) (by omega)
    have a5 : wr ((r : Int) + (q : Int)) = ((r + q : Nat) : Int) := by rw [wr_id (by omega) (by omega)]; omega
    have a6 := tdiv_two (r + q)
    have a7 : wr ((((r + q) / 2 : Nat) : Int)) = (((r + q) / 2 : Nat) : Int) := wr_id (by omega) (by omega)
    have rz : ((r : Nat) : Int) ≠ 0 := by omega
    have LP := fun env {y1 y2 y5 y6 y7 y8 y9 y10 y11 y12 y13 y14 y15 y16 y17 y18 y29} h => @lp_impl_rootOf env y1 y2 y5 y6 y7 y8 y9 y10 y11 y12 y13 y14 y15 y16 y17 y18 y29 h m hm (by omega) r r (Nat.le_refl _) p2 (by omega) (by omega)
    rw [hq] at LP
    have dz : (fun u : U64 => decide (u.val < 4294967296)) ⟨m⟩ = true := decide_eq_true (show m < 4294967296 by omega)
    rw [e_impl_rootOf]
    simp only [enc_int, aCmp_eq, hz', decide_false, obind_sm, condB_bv, cond_false, cu, envL, beq_self_eq_true, cond_true, aCall_pure, callG1, sn, dz, hL, hand_iv, obind2_sm, aBin_add, aBin_quo _ 2 (by decide), aBin_quo _ ((r : Nat) : Int) rz, a0, a1, a2, sh, a3, a4, a5, a6, a7, LP, release_iv, Int.toNat_natCast]

def rootFraction (a : Frac) : Frac × Int :=
  bif !validFraction a then (⟨0, 0⟩, 1) else bif decide (a.n < 0) then (⟨0, 0⟩, 6)
  else bif decide (wr ((isq a.n.toNat : Int) * (isq a.n.toNat : Int)) = a.n) && decide (wr ((isq a.d.toNat : Int) * (isq a.d.toNat : Int)) = a.d) then (⟨isq a.n.toNat, isq a.d.toNat⟩, 0) else (⟨0, 0⟩, 6)

theorem ok_impl_RootFraction : PureOK Try.prog n_impl_RootFraction (T1 rootFraction) :=
  pureT1 (E2 ok_impl_ValidFraction ok_impl_rootOf) mixed hb_impl_RootFraction fun a => by
  cases h1 : validFraction a
  · simp [e_impl_RootFraction, envL, aBox, aLoad, cut, aStore, splice, aBuild, aFill, retL, resL, pack, rootFraction, h1]
  · obtain ⟨r1, r2⟩ := validF_range h1
    by_cases h2 : a.n < 0
    · simp [e_impl_RootFraction, envL, aBox, aLoad, cut, aStore, splice, aBuild, aFill, retL, resL, pack, rootFraction, h1, h2]
    · have g1 : (0 ≤ a.n) = True := eq_true (by omega)
      have g2 : (a.n ≤ 1000000000) = True := eq_true (by omega)
      have g3 : (0 ≤ a.d) = True := eq_true (by omega)
      have g4 : (a.d ≤ 1000000000) = True := eq_true (by omega)
      simp [e_impl_RootFraction, envL, aBox, aLoad, cut, aStore, splice, aBuild, aFill, retL, resL, pack, rootFraction, h1, h2, g1, g2, g3, g4]
      cases decide (wr ((isq a.n.toNat : Int) * (isq a.n.toNat : Int)) = a.n) <;> cases decide (wr ((isq a.d.toNat : Int) * (isq a.d.toNat : Int)) = a.d) <;> simp

theorem ok_spec_RootFraction : PureOK Try.prog n_spec_RootFraction (T1 rootFraction) :=
  pureT1 (E2 ok_spec_l22Ok ok_spec_l05Root) mixed hb_spec_RootFraction fun a => by
  cases h1 : validFraction a
  · simp [e_spec_RootFraction, envL, aBox, aLoad, cut, aStore, splice, aBuild, aFill, retL, resL, pack, rootFraction, h1]
  · obtain ⟨r1, r2⟩ := validF_range h1
    by_cases h2 : a.n < 0
    · simp [e_spec_RootFraction, envL, aBox, aLoad, cut, aStore, splice, aBuild, aFill, retL, resL, pack, rootFraction, h1, h2]
    · have g1 : (0 ≤ a.n) = True := eq_true (by omega)
      have g2 : (a.n ≤ 1000000000) = True := eq_true (by omega)
      have g3 : (0 ≤ a.d) = True := eq_true (by omega)
      have g4 : (a.d ≤ 1000000000) = True := eq_true (by omega)
      simp [e_spec_RootFraction, envL, aBox, aLoad, cut, aStore, splice, aBuild, aFill, retL, resL, pack, rootFraction, h1, h2, g1, g2, g3, g4]
      cases decide (wr ((isq a.n.toNat : Int) * (isq a.n.toNat : Int)) = a.n) <;> cases decide (wr ((isq a.d.toNat : Int) * (isq a.d.toNat : Int)) = a.d) <;> simp

theorem ok_laws_FnExactRootFraction : PureOK Try.prog n_laws_FnExactRootFraction (T1 fun _ : Frac => true) :=
  pureT1 (E4 ok_laws_toFraction ok_spec_RootFraction ok_impl_RootFraction ok_laws_eqFraction) mixed hb_laws_FnExactRootFraction fun a => by
  simp [e_laws_FnExactRootFraction, envL, aBox, aLoad, cut, aStore, splice]
theorem law_FnExactRootFraction (a : Frac) (_ : Row.fine a) : T1 (fun _ : Frac => true) [enc a] = some (bv true) := T1_enc _ a

theorem isC_2 {cs : List AV} (h : IsC Try.prog 2 cs) : ∃ x : Int, cs = Row.cells x ∧ Row.fine x := by
  obtain ⟨n, rfl, hn⟩ := IsC.intE Try.underlying2 h
  exact ⟨n, rfl, fine_int hn⟩
theorem isC_39 {cs : List AV} (h : IsC Try.prog 39 cs) : ∃ x : Frac, cs = Row.cells x ∧ Row.fine x := by
  replace h := IsC.structE Try.underlying39 h
  obtain ⟨c0, r0, rfl, q0, k0⟩ := IsFs.consE h
  obtain ⟨c1, r1, rfl, q1, k1⟩ := IsFs.consE k0
  cases IsFs.nilE k1
  obtain ⟨v0, rfl, w0⟩ := isC_2 q0
  obtain ⟨v1, rfl, w1⟩ := isC_2 q1
  exact ⟨⟨v0, v1⟩, rfl, w0, w1⟩
theorem own : ownKnob Try.prog.godebug = none := by kernel_rfl
theorem laidOut : laidOutB Try.prog = true := by kernel_rfl

set_option maxRecDepth 100000 in
theorem holds : Rows.FnExactRootFractionSaid :=
  OpenClaim.holds_of_wide 5 Try.f5 rfl rfl rfl rfl rfl rfl rfl ⟨rfl, rfl, rfl, rfl, rfl⟩ rfl rfl rfl rfl rfl (by kernel_rfl) Try.func5 (by kernel_rfl)
    (of_decide_eq_true (by kernel_rfl)) (by unfold Func.isWrapper; rw [if_neg (by decide +kernel)]; exact ⟨rfl, rfl⟩)
    (fun os started H enc _ => law_lifted (C := Try.checked) (s := Rows.fnExactRootFractionSpec) own started (by kernel_rfl) Try.func5
      (ChangeSpec.witness6 (enc := enc) (C := Try.checked) false ⟨#[], #[.agg #[.int .i64 0, .int .i64 0]], []⟩ 8 (by kernel_rfl) (by kernel_rfl) (by kernel_rfl) (by kernel_rfl))
      laidOut rfl (tb := 4) rfl Try.underlying4 (ts := [39, 2]) (by kernel_rfl)
      (fun ds h => by match ds, h with | [d0], _ => rfl)
      hb_laws_FnExactRootFraction ok_laws_FnExactRootFraction (by
    intro l h
    obtain ⟨a0, l0, rfl, g0, k0⟩ := h
    cases k0
    obtain ⟨c0, rfl, m0⟩ := IsV.structE Try.underlying39 g0
    obtain ⟨b0, rfl, w0⟩ := isC_39 m0
    exact law_FnExactRootFraction b0 w0))
#print axioms holds
end Go.Proofs.Ytfladjnggkeiaaa
