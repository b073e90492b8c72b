/-
  The law FnExactPowerFraction holds, for all arguments: it returns true, and its arguments read behind the call as before. No condition.
-/
import Derived.Test.YtfladjnggkeiaaaFnExactPowerFractionGen
import Derived.Test.YtfladjnggkeiaaaRows
namespace Go.Proofs.Ytfladjnggkeiaaa
open Go Go.Eng Go.Eng.Cod

theorem nil_ok : EnvOK Try.prog (envL []) := E0

def within (a b c : Int) : Bool := decide (b ≤ a) && decide (a ≤ c)

theorem ok_impl_within : PureOK Try.prog n_impl_within (T3 within) := pureT3 nil_ok mixed hb_impl_within fun a b c => by
  simp [e_impl_within, within]

theorem ok_spec_l00In : PureOK Try.prog n_spec_l00In (T3 within) := pureT3 nil_ok mixed hb_spec_l00In fun a b c => by
  simp [e_spec_l00In, within]

def absI (a : Int) : Int := bif decide (a < 0) then wr (-a) else a

theorem ok_impl_abs : PureOK Try.prog n_impl_abs (T1 absI) := pureT1 nil_ok mixed hb_impl_abs fun a => by
  simp [e_impl_abs, absI]

theorem ok_spec_l05Size : PureOK Try.prog n_spec_l05Size (T1 absI) := pureT1 nil_ok mixed hb_spec_l05Size fun a => by
  simp [e_spec_l05Size, absI]

def gcdI (a b : Int) : Int := if _h : b = 0 then a else gcdI b (a.tmod b)
termination_by b.natAbs
decreasing_by
  rw [Int.natAbs_tmod]
  exact Nat.mod_lt _ (by omega)
theorem gcdI_abs (a b : Int) : (gcdI a b).natAbs = Nat.gcd a.natAbs b.natAbs := by
  induction a, b using gcdI.induct with
  | case1 a => rw [gcdI]; simp
  | case2 a b h ih => 
    rw [gcdI, dif_neg h, ih, Int.natAbs_tmod, Nat.gcd_comm, ← Nat.gcd_rec, Nat.gcd_comm]
theorem gcdI_pos (a b : Int) (ha : 0 ≤ a) (hb : 0 ≤ b) : 0 ≤ gcdI a b := by
  induction a, b using gcdI.induct with
  | case1 a => rw [gcdI]; simpa using ha
  | case2 a b h ih => 
    rw [gcdI, dif_neg h]
    exact ih hb (Int.tmod_nonneg _ ha)
def gcdN (a b : Int) : Int := (Nat.gcd a.natAbs b.natAbs : Nat)
def small (n : Int) : Bool := decide (-4611686018427387904 ≤ n) && decide (n ≤ 4611686018427387904)
theorem small_iff (n : Int) : small n = true ↔ -4611686018427387904 ≤ n ∧ n ≤ 4611686018427387904 := by simp [small]
theorem gcdN_le (a b : Int) (ha : small a = true) (hb : small b = true) : (0 : Int) ≤ gcdN a b ∧ gcdN a b ≤ 4611686018427387904 := by
  rw [small_iff] at ha hb
  unfold gcdN
  refine ⟨by omega, ?_⟩
  by_cases h : b.natAbs = 0
  · rw [h, Nat.gcd_zero_right]; omega
  · have := Nat.gcd_le_right (n := b.natAbs) a.natAbs (by omega)
    omega
theorem abs_gcdI (a b : Int) (ha : small a = true) (hb : small b = true) : absI (gcdI a b) = gcdN a b := by
  have h1 := gcdI_abs a b
  have h2 := gcdN_le a b ha hb
  unfold absI gcdN at *
  rw [← h1] at h2 ⊢
  by_cases h : gcdI a b < 0
  · simp only [h, decide_true, cond_true]
    rw [wr_id] <;> omega
  · simp only [h, decide_false, cond_false]
    omega
theorem gcdI_gcdN (a b : Int) (ha : 0 ≤ a) (hb : 0 ≤ b) : gcdI a b = gcdN a b := by
  have h1 := gcdI_abs a b
  have h2 := gcdI_pos a b ha hb
  unfold gcdN
  rw [← h1]
  omega

theorem lp_impl_gcd (env : Nat → Contract) (y2 y3 y4 y11 y12 : AV) (h : Heap) (a b : Int) : (obind (loopP hm0_impl_gcd xm0_impl_gcd (lb0_impl_gcd env) [iv a, iv b, y2, y3, y4, .top, .top, .top, .top, .top, .top, y11, y12] h) fun r => lk0_impl_gcd env r.1 r.2.1 r.2.2)
    = obind2 (aCall (env n_impl_abs) [iv (gcdI a b)] h) fun v3 h4 => some (v3, h4) := by
  induction a, b using gcdI.induct with
  | case1 a =>
    rw [loopP.eq_1, gcdI]
    simp [e_lb0_impl_gcd, restr, e_lk0x0_impl_gcd]
  | case2 a b hb ih =>
    rw [loopP.eq_1, gcdI, dif_neg hb, ← ih]
    simp [e_lb0_impl_gcd, restr, hb, aBin_rem]
theorem ok_impl_gcd : PureOK Try.prog n_impl_gcd (G2 (fun a b => small a && small b) fun a b => iv (gcdN a b)) :=
  pureG2 (E1 ok_impl_abs) mixed hb_impl_gcd fun a b h => by
  simp at h
  simp [e_impl_gcd, lp_impl_gcd, envL, abs_gcdI, h]

theorem lp_spec_l22Gcd (env : Nat → Contract) (y2 y3 y4 y11 : AV) (h : Heap) (a b : Int) : (obind (loopP hm0_spec_l22Gcd xm0_spec_l22Gcd (lb0_spec_l22Gcd env) [iv a, iv b, y2, y3, y4, .top, .top, .top, .top, .top, .top, y11] h) fun r => lk0_spec_l22Gcd env r.1 r.2.1 r.2.2)
    = some (iv (gcdI a b), h) := by
  induction a, b using gcdI.induct with
  | case1 a =>
    rw [loopP.eq_1, gcdI]
    simp [e_lb0_spec_l22Gcd, restr, e_lk0x0_spec_l22Gcd]
  | case2 a b hb ih =>
    rw [loopP.eq_1, gcdI, dif_neg hb, ← ih]
    simp [e_lb0_spec_l22Gcd, restr, hb, aBin_rem]
theorem ok_spec_l22Gcd : PureOK Try.prog n_spec_l22Gcd (G2 (fun a b => decide (0 ≤ a) && decide (0 ≤ b)) fun a b => iv (gcdN a b)) :=
  pureG2 nil_ok mixed hb_spec_l22Gcd fun a b h => by
  simp at h
  simp [e_spec_l22Gcd, lp_spec_l22Gcd, gcdI_gcdN, h]

def validFraction (f : Frac) : Bool := within f.n (-1000000000) 1000000000 && (within f.d 1 1000000000 && decide (gcdN f.n f.d = 1))
theorem within_small {n b c : Int} (h : within n b c = true) (hb : -4611686018427387904 ≤ b) (hc : c ≤ 4611686018427387904) : small n = true := by
  simp [within] at h
  simp [small]
  omega
theorem ok_impl_ValidFraction : PureOK Try.prog n_impl_ValidFraction (T1 validFraction) :=
  pureT1 (E2 ok_impl_within ok_impl_gcd) mixed hb_impl_ValidFraction fun b => by
  simp [e_impl_ValidFraction, envL, aBox, aLoad, cut, validFraction]
  cases h1 : within b.n (-1000000000) 1000000000 <;> cases h2 : within b.d 1 1000000000 <;> simp
  simp [within_small h1 (by decide) (by decide), within_small h2 (by decide) (by decide)]
theorem absI_small {n : Int} (h : small n = true) : 0 ≤ absI n ∧ (absI n).natAbs = n.natAbs := by
  rw [small_iff] at h
  unfold absI
  by_cases hn : n < 0
  · simp only [hn, decide_true, cond_true]
    rw [wr_id] <;> omega
  · rw [show decide (n < 0) = false by simpa using hn]
    exact ⟨by simp; omega, rfl⟩
theorem gcdN_absI {n d : Int} (h : small n = true) : gcdN (absI n) d = gcdN n d := by
  unfold gcdN
  rw [(absI_small h).2]
theorem ok_spec_l22Ok : PureOK Try.prog n_spec_l22Ok (T1 validFraction) :=
  pureT1 (E3 ok_spec_l00In ok_spec_l05Size ok_spec_l22Gcd) mixed hb_spec_l22Ok fun b => by
  simp [e_spec_l22Ok, envL, aBox, aLoad, cut, validFraction]
  cases h1 : within b.n (-1000000000) 1000000000 <;> cases h2 : within b.d 1 1000000000 <;> simp [h1, h2]
  have h3 : small b.n = true := within_small h1 (by decide) (by decide)
  have h4 : 0 ≤ b.d := by simp [within] at h2; omega
  simp [absI_small h3, h4, gcdN_absI h3]

theorem ok_laws_toFraction : PureOK Try.prog n_laws_toFraction (T1 fun b : Frac => b) := pureT1 nil_ok mixed hb_laws_toFraction fun b => by
  simp [e_laws_toFraction, aBox, aLoad, cut, aStore, splice, retL, resL, pack]

theorem ok_laws_eqFraction : PureOK Try.prog n_laws_eqFraction (T2 fun a b : Frac => decide (a = b)) := pureT2 nil_ok mixed hb_laws_eqFraction fun a b => by
  simp [e_laws_eqFraction, aBox, aLoad, cut]
  obtain ⟨a1, a2⟩ := a
  obtain ⟨b1, b2⟩ := b
  simp

def redF (num den : Int) : Frac := ⟨wr (num.tdiv (gcdN num den)), wr (den.tdiv (gcdN num den))⟩
def codeF (f : Frac) (ok : Bool) : Frac × Int := bif ok then (f, 0) else (⟨0, 0⟩, 2)
def redu (num den : Int) : Frac × Int := codeF (redF num den) (validFraction (redF num den))
def reduced (num den : Int) : Frac × Int := bif decide (den < 0) then redu (-num) (-den) else redu num den
theorem gcdN_ne {a b : Int} (h : b ≠ 0) : gcdN a b ≠ 0 := by
  unfold gcdN
  have : Nat.gcd a.natAbs b.natAbs ≠ 0 := fun e => h (by have := (Nat.gcd_eq_zero_iff.1 e).2; omega)
  omega
theorem gcdN_neg (a b : Int) : gcdN (-a) (-b) = gcdN a b := by
  unfold gcdN
  simp
theorem small_neg {a : Int} (h : small a = true) : small (-a) = true := by
  rw [small_iff] at *
  omega
theorem small_wr {a : Int} (h : small a = true) : wr (0 - a) = -a := by
  rw [small_iff] at h
  rw [wr_id] <;> omega
theorem gcdN_small {a b : Int} (ha : small a = true) (hb : small b = true) : small (gcdN a b) = true := by
  have := gcdN_le a b ha hb
  rw [small_iff]
  omega

theorem ok_impl_reduced : PureOK Try.prog n_impl_reduced (G2 (fun a b => small a && (small b && decide (b ≠ 0))) fun a b => enc (reduced a b)) :=
  pureG2 (E2 ok_impl_ValidFraction ok_impl_gcd) mixed hb_impl_reduced fun a b h => by
  simp at h
  obtain ⟨h1, h2, h3⟩ := h
  have h4 := gcdN_ne (a := a) h3
  have h5 := small_wr (gcdN_small h1 h2)
  rw [Int.zero_sub] at h5
  have h6 : -gcdN a b ≠ 0 := by omega
  cases hb : decide (b < 0)
  · have hr : redF a b = ⟨wr (a.tdiv (gcdN a b)), wr (b.tdiv (gcdN a b))⟩ := rfl
    simp only [reduced, redu, hb, cond_false, codeF, hr]
    simp [e_impl_reduced, envL, aBox, aLoad, cut, aStore, splice, aBuild, aFill, retL, resL, pack, h1, h2, hb, aBin_quo, h4]
    cases validFraction ⟨wr (a.tdiv (gcdN a b)), wr (b.tdiv (gcdN a b))⟩ <;> simp
  · have hr : redF (-a) (-b) = ⟨wr (-(a.tdiv (gcdN a b))), wr (-(b.tdiv (gcdN a b)))⟩ := by
      unfold redF
      rw [gcdN_neg, Int.neg_tdiv, Int.neg_tdiv]
    simp only [reduced, redu, hb, cond_true, codeF, hr]
    simp [e_impl_reduced, envL, aBox, aLoad, cut, aStore, splice, aBuild, aFill, retL, resL, pack, h1, h2, hb, h5, aBin_quo, h4, h6]
    cases validFraction ⟨wr (-(a.tdiv (gcdN a b))), wr (-(b.tdiv (gcdN a b)))⟩ <;> simp

theorem ok_spec_l22Make : PureOK Try.prog n_spec_l22Make (G2 (fun a b => small a && (small b && decide (0 < b))) fun a b => enc ((redF a b, validFraction (redF a b)) : Frac × Bool)) :=
  pureG2 (E3 ok_spec_l05Size ok_spec_l22Gcd ok_spec_l22Ok) mixed hb_spec_l22Make fun a b h => by
  simp at h
  obtain ⟨h1, h2, h3⟩ := h
  have h4 : gcdN a b ≠ 0 := gcdN_ne (by omega)
  have h5 : 0 ≤ b := by omega
  simp [e_spec_l22Make, envL, aBox, aLoad, cut, aStore, splice, aBuild, aFill, retL, resL, pack, absI_small h1, h5, gcdN_absI h1, aBin_quo, h4, redF]

theorem ok_spec_l22Code : PureOK Try.prog n_spec_l22Code (T2 codeF) := pureT2 nil_ok mixed hb_spec_l22Code fun f ok => by
  simp [e_spec_l22Code, aBox, aLoad, cut, aStore, splice, aBuild, aFill, retL, resL, pack, codeF]
  cases ok <;> simp

def addFractions (a b : Frac) : Frac × Int := bif validFraction a && validFraction b then reduced (wr (wr (a.n * b.d) + wr (b.n * a.d))) (wr (a.d * b.d)) else (⟨0, 0⟩, 1)
def timesFractions (a b : Frac) : Frac × Int := bif validFraction a && validFraction b then reduced (wr (a.n * b.n)) (wr (a.d * b.d)) else (⟨0, 0⟩, 1)
theorem validF_range {f : Frac} (h : validFraction f = true) : (-1000000000 ≤ f.n ∧ f.n ≤ 1000000000) ∧ (1 ≤ f.d ∧ f.d ≤ 1000000000) := by
  simp [validFraction, within] at h
  omega
theorem mul_range {a b : Int} (ha : -1000000000 ≤ a ∧ a ≤ 1000000000) (hb : -1000000000 ≤ b ∧ b ≤ 1000000000) : -1000000000000000000 ≤ a * b ∧ a * b ≤ 1000000000000000000 := by
  have h1 : a.natAbs ≤ 1000000000 := by omega
  have h2 : b.natAbs ≤ 1000000000 := by omega
  have h3 := Nat.mul_le_mul h1 h2
  rw [← Int.natAbs_mul] at h3
  omega
theorem prodF {a b : Frac} (ha : validFraction a = true) (hb : validFraction b = true) :
    (small (wr (a.n * b.n)) = true ∧ small (wr (wr (a.n * b.d) + wr (b.n * a.d))) = true) ∧ small (wr (a.d * b.d)) = true ∧ 0 < wr (a.d * b.d) := by
  have h1 := validF_range ha
  have h2 := validF_range hb
  have m1 := mul_range h1.1 h2.1
  have m2 := mul_range (a := a.n) (b := b.d) h1.1 (by omega)
  have m3 := mul_range (a := b.n) (b := a.d) h2.1 (by omega)
  have m4 := mul_range (a := a.d) (b := b.d) (by omega) (by omega)
  have m5 : 0 < a.d * b.d := Int.mul_pos (by omega) (by omega)
  have w1 : wr (a.n * b.n) = a.n * b.n := wr_id (by omega) (by omega)
  have w2 : wr (a.n * b.d) = a.n * b.d := wr_id (by omega) (by omega)
  have w3 : wr (b.n * a.d) = b.n * a.d := wr_id (by omega) (by omega)
  have w4 : wr (a.d * b.d) = a.d * b.d := wr_id (by omega) (by omega)
  have w5 : wr (a.n * b.d + b.n * a.d) = a.n * b.d + b.n * a.d := wr_id (by omega) (by omega)
  rw [w1, w2, w3, w4, w5]
  simp only [small_iff]
  omega
theorem reduced_pos {a b : Int} (h : 0 < b) : reduced a b = codeF (redF a b) (validFraction (redF a b)) := by
  have : decide (b < 0) = false := by simp; omega
  simp [reduced, this, redu]

theorem ok_impl_TimesFractions : PureOK Try.prog n_impl_TimesFractions (T2 timesFractions) :=
  pureT2 (E2 ok_impl_ValidFraction ok_impl_reduced) mixed hb_impl_TimesFractions fun a b => by
  simp [e_impl_TimesFractions, envL, aBox, aLoad, cut, aStore, splice, aBuild, aFill, retL, resL, pack, timesFractions]
  cases h1 : validFraction a <;> cases h2 : validFraction b <;> simp [h1, h2]
  obtain ⟨⟨p1, p2⟩, p3, p4⟩ := prodF h1 h2
  have p5 : ¬ wr (a.d * b.d) = 0 := by omega
  simp [p1, p3, p5]

theorem ok_spec_TimesFractions : PureOK Try.prog n_spec_TimesFractions (T2 timesFractions) :=
  pureT2 (E3 ok_spec_l22Ok ok_spec_l22Make ok_spec_l22Code) mixed hb_spec_TimesFractions fun a b => by
  simp [e_spec_TimesFractions, envL, aBox, aLoad, cut, aStore, splice, aBuild, aFill, retL, resL, pack, timesFractions]
  cases h1 : validFraction a <;> cases h2 : validFraction b <;> simp [h1, h2]
  obtain ⟨⟨p1, p2⟩, p3, p4⟩ := prodF h1 h2
  simp [p1, p3, p4, reduced_pos p4]

def turnF (a : Frac) : Frac := bif decide (a.n < 0) then ⟨wr (0 - a.d), wr (0 - a.n)⟩ else ⟨a.d, a.n⟩
def powF (a : Frac) : Nat → Frac → Frac × Int
  | 0, f => (f, 0)
  | n + 1, f => bif decide ((timesFractions f a).2 = 0) then powF a n (timesFractions f a).1 else (⟨0, 0⟩, (timesFractions f a).2)
def powerFraction (a : Frac) (p : Int) : Frac × Int :=
  bif !validFraction a then (⟨0, 0⟩, 1) else bif !within p (-20) 20 then (⟨0, 0⟩, 2)
  else bif decide (p < 0) && decide (a.n = 0) then (⟨0, 0⟩, 6)
  else bif decide (p < 0) then powF (turnF a) p.natAbs ⟨1, 1⟩ else powF a p.natAbs ⟨1, 1⟩
theorem turn_reduced {a : Frac} (h : validFraction a = true) (hn : a.n ≠ 0) : (reduced a.d a.n).1 = turnF a := by
  obtain ⟨r1, r2⟩ := validF_range h
  have hg : gcdN a.n a.d = 1 := by simp [validFraction] at h; exact h.2.2
  have hg2 : gcdN a.d a.n = 1 := by rw [← hg]; unfold gcdN; rw [Nat.gcd_comm]
  have hg3 : gcdN (-a.d) (-a.n) = 1 := by rw [gcdN_neg, hg2]
  by_cases hb : a.n < 0
  · have w1 : wr (-a.d) = -a.d := wr_id (by omega) (by omega)
    have w2 : wr (-a.n) = -a.n := wr_id (by omega) (by omega)
    have e : redF (-a.d) (-a.n) = ⟨-a.d, -a.n⟩ := by
      simp only [redF, hg3, Int.tdiv_one]
      rw [w1, w2]
    have v : validFraction ⟨-a.d, -a.n⟩ = true := by
      simp [validFraction, within, hg3]
      omega
    simp [reduced, hb, redu, e, v, codeF, turnF, w1, w2]
  · have w1 : wr a.d = a.d := wr_id (by omega) (by omega)
    have w2 : wr a.n = a.n := wr_id (by omega) (by omega)
    have e : redF a.d a.n = ⟨a.d, a.n⟩ := by
      simp only [redF, hg2, Int.tdiv_one]
      rw [w1, w2]
    have v : validFraction ⟨a.d, a.n⟩ = true := by
      simp [validFraction, within, hg2]
      omega
    simp [reduced, hb, redu, e, v, codeF, turnF]

theorem ok_impl_reciprocal : PureOK Try.prog n_impl_reciprocal (G1 (fun a : Frac => validFraction a && !decide (a.n = 0)) fun a => enc (turnF a)) :=
  pureG1 (E1 ok_impl_reduced) mixed hb_impl_reciprocal fun a h => by
  simp at h
  obtain ⟨r1, r2⟩ := validF_range h.1
  have s1 : small a.n = true := by rw [small_iff]; omega
  have s2 : small a.d = true := by rw [small_iff]; omega
  have e := turn_reduced h.1 h.2
  simp [e_impl_reciprocal, envL, aBox, aLoad, cut, aStore, splice, aBuild, aFill, retL, resL, pack, s1, s2, h.2, e]

theorem ok_spec_l22Turn : PureOK Try.prog n_spec_l22Turn (T1 turnF) := pureT1 nil_ok mixed hb_spec_l22Turn fun a => by
  simp [e_spec_l22Turn, aBox, aLoad, cut, aStore, splice, aBuild, aFill, retL, resL, pack, turnF]
  cases decide (a.n < 0) <;> simp

theorem lp0_impl_PowerFraction (env : Nat → Contract) (he : env n_impl_TimesFractions = .pure (T2 timesFractions)) (a : Frac) {y0 y3 y9 y10 y11 y12 y13 y14 y15 y16 y17 y18 y19 y20 y21 y22 y23 y24 y25 y26 y27 y28 y29 y30 y31 y32 y33 y34 y50 : AV} : ∀ (n : Nat) (hn : n ≤ 64) (f r : Frac) (t : Heap),
    (obind (loopP hm0_impl_PowerFraction xm0_impl_PowerFraction (lb0_impl_PowerFraction env) [y0, iv (n : Nat), .ptr 0 1 0 0, y3, .ptr 1 1 0 0, .top, .ptr 2 1 0 0, .top, .top, y9, y10, y11, y12, y13, y14, y15, y16, y17, y18, y19, y20, y21, y22, y23, y24, y25, y26, y27, y28, y29, y30, y31, y32, y33, y34, .top, .top, .top, .top, .top, .top, .top, .top, .top, .top, .top, .top, .top, .top, .top, y50] (⟨2, [[iv a.n, iv a.d]]⟩ :: ⟨2, [[iv r.n, iv r.d]]⟩ :: ⟨2, [[iv f.n, iv f.d]]⟩ :: t)) fun r => lk0_impl_PowerFraction env r.1 r.2.1 r.2.2).map Prod.fst = some (enc (powF a n f)) := by
  intro n
  induction n with
  | zero =>
    intro hn f r t
    rw [loopP.eq_1]
    simp [e_lb0_impl_PowerFraction, restr, e_lk0x1_impl_PowerFraction, aLoad, cut, aStore, splice, retL, resL, pack, powF]
  | succ n ih =>
    intro hn f r t
    have ih' := fun f t => ih (by omega) f r t
    have w : wr (((n + 1 : Nat) : Int) - 1) = (n : Nat) := by
      rw [wr_id] <;> omega
    have p : (0 : Int) < ((n + 1 : Nat) : Int) := by omega
    rw [loopP.eq_1]
    by_cases hc : (timesFractions f a).2 = 0
    · simp [-Int.natCast_add, e_lb0_impl_PowerFraction, he, restr, p, w, hc, aBox, aLoad, cut, aStore, splice, powF]
      simpa using ih' (timesFractions f a).1 _
    · simp [-Int.natCast_add, e_lb0_impl_PowerFraction, he, restr, p, w, hc, aBox, aLoad, cut, aStore, splice, aBuild, aFill, e_lk0r_impl_PowerFraction, retL, resL, pack, powF]

theorem lp1_impl_PowerFraction (env : Nat → Contract) (he : env n_impl_TimesFractions = .pure (T2 timesFractions)) (a : Frac) {y0 y3 y9 y10 y11 y12 y13 y14 y15 y16 y17 y18 y19 y20 y21 y22 y23 y24 y25 y26 y27 y28 y29 y30 y31 y32 y33 y34 y50 : AV} : ∀ (n : Nat) (hn : n ≤ 64) (f r : Frac) (t : Heap),
    (obind (loopP hm1_impl_PowerFraction xm1_impl_PowerFraction (lb1_impl_PowerFraction env) [y0, iv (n : Nat), .ptr 0 1 0 0, y3, .ptr 1 1 0 0, .top, .ptr 2 1 0 0, .top, .top, y9, y10, y11, y12, y13, y14, y15, y16, y17, y18, y19, y20, y21, y22, y23, y24, y25, y26, y27, y28, y29, y30, y31, y32, y33, y34, .top, .top, .top, .top, .top, .top, .top, .top, .top, .top, .top, .top, .top, .top, .top, y50] (⟨2, [[iv a.n, iv a.d]]⟩ :: ⟨2, [[iv r.n, iv r.d]]⟩ :: ⟨2, [[iv f.n, iv f.d]]⟩ :: t)) fun r => lk1_impl_PowerFraction env r.1 r.2.1 r.2.2).map Prod.fst = some (enc (powF a n f)) := by
  intro n
  induction n with
  | zero =>
    intro hn f r t
    rw [loopP.eq_1]
    simp [e_lb1_impl_PowerFraction, restr, e_lk1x1_impl_PowerFraction, aLoad, cut, aStore, splice, retL, resL, pack, powF]
  | succ n ih =>
    intro hn f r t
    have ih' := fun f t => ih (by omega) f r t
    have w : wr (((n + 1 : Nat) : Int) - 1) = (n : Nat) := by
      rw [wr_id] <;> omega
    have p : (0 : Int) < ((n + 1 : Nat) : Int) := by omega
    rw [loopP.eq_1]
    by_cases hc : (timesFractions f a).2 = 0
    · simp [-Int.natCast_add, e_lb1_impl_PowerFraction, he, restr, p, w, hc, aBox, aLoad, cut, aStore, splice, powF]
      simpa using ih' (timesFractions f a).1 _
    · simp [-Int.natCast_add, e_lb1_impl_PowerFraction, he, restr, p, w, hc, aBox, aLoad, cut, aStore, splice, aBuild, aFill, e_lk1r_impl_PowerFraction, retL, resL, pack, powF]

theorem lp0_spec_PowerFraction (env : Nat → Contract) (he : env n_spec_TimesFractions = .pure (T2 timesFractions)) (a : Frac) {y0 y3 y10 y11 y12 y13 y14 y15 y16 y17 y18 y19 y20 y21 y22 y23 y24 y25 y26 y27 y28 y29 y30 y31 y32 y49 : AV} (N : Nat) (hN : N ≤ 64) : ∀ (n i : Nat) (hn : i + n = N) (f r : Frac) (t : Heap),
    (obind (loopP hm0_spec_PowerFraction xm0_spec_PowerFraction (lb0_spec_PowerFraction env) [y0, iv (N : Nat), .ptr 0 1 0 0, y3, .ptr 1 1 0 0, .top, .ptr 2 1 0 0, iv (i : Nat), .top, .top, y10, y11, y12, y13, y14, y15, y16, y17, y18, y19, y20, y21, y22, y23, y24, y25, y26, y27, y28, y29, y30, y31, y32, .top, .top, .top, .top, .top, .top, .top, .top, .top, .top, .top, .top, .top, .top, .top, .top, y49] (⟨2, [[iv a.n, iv a.d]]⟩ :: ⟨2, [[iv r.n, iv r.d]]⟩ :: ⟨2, [[iv f.n, iv f.d]]⟩ :: t)) fun r => lk0_spec_PowerFraction env r.1 r.2.1 r.2.2).map Prod.fst = some (enc (powF a n f)) := by
  intro n
  induction n with
  | zero =>
    intro i hn f r t
    have p : ¬ i < N := by omega
    rw [loopP.eq_1]
    simp [e_lb0_spec_PowerFraction, restr, p, e_lk0x0_spec_PowerFraction, aLoad, cut, aStore, splice, retL, resL, pack, powF]
  | succ n ih =>
    intro i hn f r t
    have ih' := fun f t => ih (i + 1) (by omega) f r t
    have w : wr ((i : Int) + 1) = (i : Int) + 1 := wr_id (by omega) (by omega)
    have p : i < N := by omega
    rw [loopP.eq_1]
    by_cases hc : (timesFractions f a).2 = 0
    · simp [e_lb0_spec_PowerFraction, he, restr, p, w, hc, aBox, aLoad, cut, aStore, splice, powF]
      simpa using ih' (timesFractions f a).1 _
    · simp [e_lb0_spec_PowerFraction, he, restr, p, w, hc, aBox, aLoad, cut, aStore, splice, aBuild, aFill, e_lk0r_spec_PowerFraction, retL, resL, pack, powF]

theorem lp1_spec_PowerFraction (env : Nat → Contract) (he : env n_spec_TimesFractions = .pure (T2 timesFractions)) (a : Frac) {y0 y3 y10 y11 y12 y13 y14 y15 y16 y17 y18 y19 y20 y21 y22 y23 y24 y25 y26 y27 y28 y29 y30 y31 y32 y49 : AV} (N : Nat) (hN : N ≤ 64) : ∀ (n i : Nat) (hn : i + n = N) (f r : Frac) (t : Heap),
    (obind (loopP hm1_spec_PowerFraction xm1_spec_PowerFraction (lb1_spec_PowerFraction env) [y0, iv (N : Nat), .ptr 0 1 0 0, y3, .ptr 1 1 0 0, .top, .ptr 2 1 0 0, iv (i : Nat), .top, .top, y10, y11, y12, y13, y14, y15, y16, y17, y18, y19, y20, y21, y22, y23, y24, y25, y26, y27, y28, y29, y30, y31, y32, .top, .top, .top, .top, .top, .top, .top, .top, .top, .top, .top, .top, .top, .top, .top, .top, y49] (⟨2, [[iv a.n, iv a.d]]⟩ :: ⟨2, [[iv r.n, iv r.d]]⟩ :: ⟨2, [[iv f.n, iv f.d]]⟩ :: t)) fun r => lk1_spec_PowerFraction env r.1 r.2.1 r.2.2).map Prod.fst = some (enc (powF a n f)) := by
  intro n
  induction n with
  | zero =>
    intro i hn f r t
    have p : ¬ i < N := by omega
    rw [loopP.eq_1]
    simp [e_lb1_spec_PowerFraction, restr, p, e_lk1x0_spec_PowerFraction, aLoad, cut, aStore, splice, retL, resL, pack, powF]
  | succ n ih =>
    intro i hn f r t
    have ih' := fun f t => ih (i + 1) (by omega) f r t
    have w : wr ((i : Int) + 1) = (i : Int) + 1 := wr_id (by omega) (by omega)
    have p : i < N := by omega
    rw [loopP.eq_1]
    by_cases hc : (timesFractions f a).2 = 0
    · simp [e_lb1_spec_PowerFraction, he, restr, p, w, hc, aBox, aLoad, cut, aStore, splice, powF]
      simpa using ih' (timesFractions f a).1 _
    · simp [e_lb1_spec_PowerFraction, he, restr, p, w, hc, aBox, aLoad, cut, aStore, splice, aBuild, aFill, e_lk1r_spec_PowerFraction, retL, resL, pack, powF]

theorem ex_of_map {X : Option (AV × Heap)} {v : AV} (h : X.map Prod.fst = some v) : ∃ x, X = some (v, x) := by
  obtain ⟨⟨a, b⟩, e, e2⟩ := Option.map_eq_some_iff.1 h
  cases e2
  exact ⟨b, e⟩

theorem ok_impl_PowerFraction : PureOK Try.prog n_impl_PowerFraction (T2 powerFraction) :=
  pureT2 (E4 ok_impl_ValidFraction ok_impl_within ok_impl_reciprocal ok_impl_TimesFractions) mixed hb_impl_PowerFraction fun a p => by
  simp [e_impl_PowerFraction, envL, aBox, aLoad, cut, aStore, splice, aBuild, aFill, retL, resL, pack, powerFraction]
  cases h1 : validFraction a <;> cases h2 : within p (-20) 20 <;> by_cases h3 : p < 0 <;> simp [h1, h2, h3]
  · by_cases h4 : a.n = 0 <;> simp [h4]
    have hr : -20 ≤ p := by simp [within] at h2; omega
    have hp : wr (-p) = (p.natAbs : Int) := by rw [wr_id] <;> omega
    rw [hp]
    exact ex_of_map (lp0_impl_PowerFraction _ (by rfl) (turnF a) p.natAbs (by omega) ⟨1, 1⟩ ⟨0, 0⟩ [])
  all_goals
    have hr : p ≤ 20 := by simp [within] at h2; omega
    have hp : p = (p.natAbs : Int) := by omega
    generalize p.natAbs = m at hp ⊢
    subst hp
    exact ex_of_map (lp1_impl_PowerFraction _ (by rfl) a m (by omega) ⟨1, 1⟩ ⟨0, 0⟩ [])

theorem ok_spec_PowerFraction : PureOK Try.prog n_spec_PowerFraction (T2 powerFraction) :=
  pureT2 (E4 ok_spec_l22Ok ok_spec_l00In ok_spec_l22Turn ok_spec_TimesFractions) mixed hb_spec_PowerFraction fun a p => by
  have hw : wr (-20) = -20 := by decide
  simp [e_spec_PowerFraction, envL, aBox, aLoad, cut, aStore, splice, aBuild, aFill, retL, resL, pack, powerFraction, hw]
  cases h1 : validFraction a <;> cases h2 : within p (-20) 20 <;> by_cases h3 : p < 0 <;> simp [h1, h2, h3]
  · by_cases h4 : a.n = 0 <;> simp [h4]
    have hr : -20 ≤ p := by simp [within] at h2; omega
    have hp : wr (-p) = (p.natAbs : Int) := by rw [wr_id] <;> omega
    rw [hp]
    exact ex_of_map (lp0_spec_PowerFraction _ (by rfl) (turnF a) p.natAbs (by omega) p.natAbs 0 (by omega) ⟨1, 1⟩ ⟨0, 0⟩ [])
  all_goals
    have hr : p ≤ 20 := by simp [within] at h2; omega
    have hp : p = (p.natAbs : Int) := by omega
    generalize p.natAbs = m at hp ⊢
    subst hp
    exact ex_of_map (lp1_spec_PowerFraction _ (by rfl) a m (by omega) m 0 (by omega) ⟨1, 1⟩ ⟨0, 0⟩ [])

theorem ok_laws_FnExactPowerFraction : PureOK Try.prog n_laws_FnExactPowerFraction (T2 fun (_ : Frac) (_ : Int) => true) :=
  pureT2 (E4 ok_laws_toFraction ok_spec_PowerFraction ok_impl_PowerFraction ok_laws_eqFraction) mixed hb_laws_FnExactPowerFraction fun (a : Frac) (p : Int) => by
  simp [e_laws_FnExactPowerFraction, envL, aBox, aLoad, cut, aStore, splice]
theorem law_FnExactPowerFraction (a : Frac) (p : Int) (_ : Row.fine a) (_ : Row.fine p) : T2 (fun (_ : Frac) (_ : Int) => true) [enc a, enc p] = some (bv true) := T2_enc _ a p

theorem isC_2 {cs : List AV} (h : IsC Try.prog 2 cs) : ∃ x : Int, cs = Row.cells x ∧ Row.fine x := by
  obtain ⟨n, rfl, hn⟩ := IsC.intE Try.underlying2 h
  exact ⟨n, rfl, fine_int hn⟩
theorem isC_39 {cs : List AV} (h : IsC Try.prog 39 cs) : ∃ x : Frac, cs = Row.cells x ∧ Row.fine x := by
  replace h := IsC.structE Try.underlying39 h
  obtain ⟨c0, r0, rfl, q0, k0⟩ := IsFs.consE h
  obtain ⟨c1, r1, rfl, q1, k1⟩ := IsFs.consE k0
  cases IsFs.nilE k1
  obtain ⟨v0, rfl, w0⟩ := isC_2 q0
  obtain ⟨v1, rfl, w1⟩ := isC_2 q1
  exact ⟨⟨v0, v1⟩, rfl, w0, w1⟩
theorem own : ownKnob Try.prog.godebug = none := by kernel_rfl
theorem laidOut : laidOutB Try.prog = true := by kernel_rfl

set_option maxRecDepth 100000 in
theorem holds : Rows.FnExactPowerFractionSaid :=
  OpenClaim.holds_of_wide 7 Try.f7 rfl rfl rfl rfl rfl rfl rfl ⟨rfl, rfl, rfl, rfl, rfl⟩ rfl rfl rfl rfl rfl (by kernel_rfl) Try.func7 (by kernel_rfl)
    (of_decide_eq_true (by kernel_rfl)) (by unfold Func.isWrapper; rw [if_neg (by decide +kernel)]; exact ⟨rfl, rfl⟩)
    (fun os started H enc _ => law_lifted (C := Try.checked) (s := Rows.fnExactPowerFractionSpec) own started (by kernel_rfl) Try.func7
      (ChangeSpec.witness6 (enc := enc) (C := Try.checked) false ⟨#[], #[.agg #[.int .i64 0, .int .i64 0], .int .i64 0], []⟩ 8 (by kernel_rfl) (by kernel_rfl) (by kernel_rfl) (by kernel_rfl))
      laidOut rfl (tb := 4) rfl Try.underlying4 (ts := [39, 2]) (by kernel_rfl)
      (fun ds h => by match ds, h with | [d0, d1], _ => rfl)
      hb_laws_FnExactPowerFraction ok_laws_FnExactPowerFraction (by
    intro l h
    obtain ⟨a0, l0, rfl, g0, k0⟩ := h
    obtain ⟨a1, l1, rfl, g1, k1⟩ := k0
    cases k1
    obtain ⟨c0, rfl, m0⟩ := IsV.structE Try.underlying39 g0
    obtain ⟨b0, rfl, w0⟩ := isC_39 m0
    obtain ⟨b1, e1, w1⟩ := isC_2 (isV_one (by kernel_rfl) g1)
    obtain rfl := one_enc e1
    exact law_FnExactPowerFraction b0 b1 w0 w1))
#print axioms holds
end Go.Proofs.Ytfladjnggkeiaaa
