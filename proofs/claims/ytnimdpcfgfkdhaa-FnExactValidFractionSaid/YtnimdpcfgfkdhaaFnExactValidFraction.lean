/-
  The law FnExactValidFraction holds, for all arguments: it returns true, and its arguments read behind the call as before. No condition.
-/
import Derived.Test.YtnimdpcfgfkdhaaFnExactValidFractionGen
import Derived.Test.YtnimdpcfgfkdhaaRows
namespace Go.Proofs.Ytnimdpcfgfkdhaa
open Go Go.Eng Go.Eng.Cod

theorem nil_ok : EnvOK Try.prog (envL []) := envL_ok (fun _ h => by cases h)

def within (a b c : Int) : Bool := decide (b ≤ a) && decide (a ≤ c)

theorem ok_impl_within : PureOK Try.prog n_impl_within (T3 within) := pureT3 nil_ok mixed hb_impl_within fun a b c => by
  simp [e_impl_within, within]

theorem ok_spec_l00In : PureOK Try.prog n_spec_l00In (T3 within) := pureT3 nil_ok mixed hb_spec_l00In fun a b c => by
  simp [e_spec_l00In, within]

def absI (a : Int) : Int := bif decide (a < 0) then wr (-a) else a

theorem ok_impl_abs : PureOK Try.prog n_impl_abs (T1 absI) := pureT1 nil_ok mixed hb_impl_abs fun a => by
  simp [e_impl_abs, absI]

theorem ok_spec_l05Size : PureOK Try.prog n_spec_l05Size (T1 absI) := pureT1 nil_ok mixed hb_spec_l05Size fun a => by
  simp [e_spec_l05Size, absI]

def gcdI (a b : Int) : Int := if _h : b = 0 then a else gcdI b (a.tmod b)
termination_by b.natAbs
decreasing_by
  rw [Int.natAbs_tmod]
  exact Nat.mod_lt _ (by omega)
theorem gcdI_abs (a b : Int) : (gcdI a b).natAbs = Nat.gcd a.natAbs b.natAbs := by
  induction a, b using gcdI.induct with
  | case1 a => rw [gcdI]; simp
  | case2 a b h ih => 
    rw [gcdI, dif_neg h, ih, Int.natAbs_tmod, Nat.gcd_comm, ← Nat.gcd_rec, Nat.gcd_comm]
theorem gcdI_pos (a b : Int) (ha : 0 ≤ a) (hb : 0 ≤ b) : 0 ≤ gcdI a b := by
  induction a, b using gcdI.induct with
  | case1 a => rw [gcdI]; simpa using ha
  | case2 a b h ih => 
    rw [gcdI, dif_neg h]
    exact ih hb (Int.tmod_nonneg _ ha)
def gcdN (a b : Int) : Int := (Nat.gcd a.natAbs b.natAbs : Nat)
def small (n : Int) : Bool := decide (-4611686018427387904 ≤ n) && decide (n ≤ 4611686018427387904)
theorem small_iff (n : Int) : small n = true ↔ -4611686018427387904 ≤ n ∧ n ≤ 4611686018427387904 := by simp [small]
theorem gcdN_le (a b : Int) (ha : small a = true) (hb : small b = true) : (0 : Int) ≤ gcdN a b ∧ gcdN a b ≤ 4611686018427387904 := by
  rw [small_iff] at ha hb
  unfold gcdN
  refine ⟨by omega, ?_⟩
  by_cases h : b.natAbs = 0
  · rw [h, Nat.gcd_zero_right]; omega
  · have := Nat.gcd_le_right (n := b.natAbs) a.natAbs (by omega)
    omega
theorem abs_gcdI (a b : Int) (ha : small a = true) (hb : small b = true) : absI (gcdI a b) = gcdN a b := by
  have h1 := gcdI_abs a b
  have h2 := gcdN_le a b ha hb
  unfold absI gcdN at *
  rw [← h1] at h2 ⊢
  by_cases h : gcdI a b < 0
  · simp only [h, decide_true, cond_true]
    rw [wr_id] <;> omega
  · simp only [h, decide_false, cond_false]
    omega
theorem gcdI_gcdN (a b : Int) (ha : 0 ≤ a) (hb : 0 ≤ b) : gcdI a b = gcdN a b := by
  have h1 := gcdI_abs a b
  have h2 := gcdI_pos a b ha hb
  unfold gcdN
  rw [← h1]
  omega

theorem lp_impl_gcd (env : Nat → Contract) (y2 y3 y4 y11 y12 : AV) (h : Heap) (a b : Int) : (obind (loopP hm0_impl_gcd xm0_impl_gcd (lb0_impl_gcd env) [iv a, iv b, y2, y3, y4, .top, .top, .top, .top, .top, .top, y11, y12] h) fun r => lk0_impl_gcd env r.1 r.2.1 r.2.2)
    = obind2 (aCall (env n_impl_abs) [iv (gcdI a b)] h) fun v3 h4 => some (v3, h4) := by
  induction a, b using gcdI.induct with
  | case1 a =>
    rw [loopP.eq_1, gcdI]
    simp [e_lb0_impl_gcd, restr, e_lk0x0_impl_gcd]
  | case2 a b hb ih =>
    rw [loopP.eq_1, gcdI, dif_neg hb, ← ih]
    simp [e_lb0_impl_gcd, restr, hb, aBin_rem]
theorem ok_impl_gcd : PureOK Try.prog n_impl_gcd (G2 (fun a b => small a && small b) fun a b => iv (gcdN a b)) :=
  pureG2 (envL_ok (l := [(n_impl_abs, .pure (T1 absI))]) (by simpa [ContractOK] using ok_impl_abs)) mixed hb_impl_gcd fun a b h => by
  simp at h
  simp [e_impl_gcd, lp_impl_gcd, envL, abs_gcdI, h]

theorem lp_spec_l22Gcd (env : Nat → Contract) (y2 y3 y4 y11 : AV) (h : Heap) (a b : Int) : (obind (loopP hm0_spec_l22Gcd xm0_spec_l22Gcd (lb0_spec_l22Gcd env) [iv a, iv b, y2, y3, y4, .top, .top, .top, .top, .top, .top, y11] h) fun r => lk0_spec_l22Gcd env r.1 r.2.1 r.2.2)
    = some (iv (gcdI a b), h) := by
  induction a, b using gcdI.induct with
  | case1 a =>
    rw [loopP.eq_1, gcdI]
    simp [e_lb0_spec_l22Gcd, restr, e_lk0x0_spec_l22Gcd]
  | case2 a b hb ih =>
    rw [loopP.eq_1, gcdI, dif_neg hb, ← ih]
    simp [e_lb0_spec_l22Gcd, restr, hb, aBin_rem]
theorem ok_spec_l22Gcd : PureOK Try.prog n_spec_l22Gcd (G2 (fun a b => decide (0 ≤ a) && decide (0 ≤ b)) fun a b => iv (gcdN a b)) :=
  pureG2 nil_ok mixed hb_spec_l22Gcd fun a b h => by
  simp at h
  simp [e_spec_l22Gcd, lp_spec_l22Gcd, gcdI_gcdN, h]

def validFraction (f : Frac) : Bool := within f.n (-1000000000) 1000000000 && (within f.d 1 1000000000 && decide (gcdN f.n f.d = 1))
theorem within_small {n b c : Int} (h : within n b c = true) (hb : -4611686018427387904 ≤ b) (hc : c ≤ 4611686018427387904) : small n = true := by
  simp [within] at h
  simp [small]
  omega
theorem ok_impl_ValidFraction : PureOK Try.prog n_impl_ValidFraction (T1 validFraction) :=
  pureT1 (envL_ok (l := [(n_impl_within, .pure (T3 within)), (n_impl_gcd, .pure (G2 (fun a b => small a && small b) fun a b => iv (gcdN a b)))]) (by simpa [ContractOK] using ⟨ok_impl_within, ok_impl_gcd⟩)) mixed hb_impl_ValidFraction fun b => by
  simp [e_impl_ValidFraction, envL, aBox, aLoad, cut, validFraction]
  cases h1 : within b.n (-1000000000) 1000000000 <;> cases h2 : within b.d 1 1000000000 <;> simp
  simp [within_small h1 (by decide) (by decide), within_small h2 (by decide) (by decide)]
theorem absI_small {n : Int} (h : small n = true) : 0 ≤ absI n ∧ (absI n).natAbs = n.natAbs := by
  rw [small_iff] at h
  unfold absI
  by_cases hn : n < 0
  · simp only [hn, decide_true, cond_true]
    rw [wr_id] <;> omega
  · rw [show decide (n < 0) = false by simpa using hn]
    exact ⟨by simp; omega, rfl⟩
theorem gcdN_absI {n d : Int} (h : small n = true) : gcdN (absI n) d = gcdN n d := by
  unfold gcdN
  rw [(absI_small h).2]
theorem ok_spec_l22Ok : PureOK Try.prog n_spec_l22Ok (T1 validFraction) :=
  pureT1 (envL_ok (l := [(n_spec_l00In, .pure (T3 within)), (n_spec_l05Size, .pure (T1 absI)), (n_spec_l22Gcd, .pure (G2 (fun a b => decide (0 ≤ a) && decide (0 ≤ b)) fun a b => iv (gcdN a b)))]) (by simpa [ContractOK] using ⟨ok_spec_l00In, ok_spec_l05Size, ok_spec_l22Gcd⟩)) mixed hb_spec_l22Ok fun b => by
  simp [e_spec_l22Ok, envL, aBox, aLoad, cut, validFraction]
  cases h1 : within b.n (-1000000000) 1000000000 <;> cases h2 : within b.d 1 1000000000 <;> simp [h1, h2]
  have h3 : small b.n = true := within_small h1 (by decide) (by decide)
  have h4 : 0 ≤ b.d := by simp [within] at h2; omega
  simp [absI_small h3, h4, gcdN_absI h3]

theorem ok_spec_ValidFraction : PureOK Try.prog n_spec_ValidFraction (T1 validFraction) :=
  pureT1 (envL_ok (l := [(n_spec_l22Ok, .pure (T1 validFraction))]) (by simpa [ContractOK] using ok_spec_l22Ok)) mixed hb_spec_ValidFraction fun b => by
  simp [e_spec_ValidFraction, envL, aBox, aLoad, cut]

theorem ok_laws_toFraction : PureOK Try.prog n_laws_toFraction (T1 fun b : Frac => b) := pureT1 nil_ok mixed hb_laws_toFraction fun b => by
  simp [e_laws_toFraction, aBox, aLoad, cut, aStore, splice, retL, resL, pack]

theorem ok_laws_FnExactValidFraction : PureOK Try.prog n_laws_FnExactValidFraction (T1 fun _ : Frac => true) :=
  pureT1 (envL_ok (l := [(n_laws_toFraction, .pure (T1 fun b : Frac => b)), (n_spec_ValidFraction, .pure (T1 validFraction)), (n_impl_ValidFraction, .pure (T1 validFraction))])
    (by simpa [ContractOK] using ⟨ok_laws_toFraction, ok_spec_ValidFraction, ok_impl_ValidFraction⟩)) mixed hb_laws_FnExactValidFraction fun b => by
  simp [e_laws_FnExactValidFraction, envL, aBox, aLoad, cut, aStore, splice]
theorem law_FnExactValidFraction (b : Frac) (_ : Row.fine b) : T1 (fun _ : Frac => true) [enc b] = some (bv true) := T1_enc _ b

theorem isC_2 {cs : List AV} (h : IsC Try.prog 2 cs) : ∃ x : Int, cs = Row.cells x ∧ Row.fine x := by
  obtain ⟨n, rfl, hn⟩ := IsC.intE Try.underlying2 h
  exact ⟨n, rfl, fine_int hn⟩
theorem isC_38 {cs : List AV} (h : IsC Try.prog 38 cs) : ∃ x : Frac, cs = Row.cells x ∧ Row.fine x := by
  replace h := IsC.structE Try.underlying38 h
  obtain ⟨c0, r0, rfl, q0, k0⟩ := IsFs.consE h
  obtain ⟨c1, r1, rfl, q1, k1⟩ := IsFs.consE k0
  cases IsFs.nilE k1
  obtain ⟨v0, rfl, w0⟩ := isC_2 q0
  obtain ⟨v1, rfl, w1⟩ := isC_2 q1
  exact ⟨⟨v0, v1⟩, rfl, w0, w1⟩
theorem own : ownKnob Try.prog.godebug = none := by kernel_rfl
theorem laidOut : laidOutB Try.prog = true := by kernel_rfl

set_option maxRecDepth 100000 in
theorem holds : Rows.FnExactValidFractionSaid :=
  OpenClaim.holds_of_wide 6 Try.f6 rfl rfl rfl rfl rfl rfl rfl ⟨rfl, rfl, rfl, rfl, rfl⟩ rfl rfl rfl rfl rfl (by kernel_rfl) Try.func6 (by kernel_rfl)
    (of_decide_eq_true (by kernel_rfl)) (by unfold Func.isWrapper; rw [if_neg (by decide +kernel)]; exact ⟨rfl, rfl⟩)
    (fun os started H enc _ => law_lifted (C := Try.checked) (s := Rows.fnExactValidFractionSpec) own started (by kernel_rfl) Try.func6
      (ChangeSpec.witness6 (enc := enc) (C := Try.checked) false ⟨#[], #[.agg #[.int .i64 0, .int .i64 0]], []⟩ 8 (by kernel_rfl) (by kernel_rfl) (by kernel_rfl) (by kernel_rfl))
      laidOut rfl (tb := 4) rfl Try.underlying4 (ts := [38, 2]) (by kernel_rfl)
      (fun ds h => by match ds, h with | [d0], _ => rfl)
      hb_laws_FnExactValidFraction ok_laws_FnExactValidFraction (by
    intro l h
    obtain ⟨a0, l0, rfl, g0, k0⟩ := h
    cases k0
    obtain ⟨c0, rfl, m0⟩ := IsV.structE Try.underlying38 g0
    obtain ⟨b0, rfl, w0⟩ := isC_38 m0
    exact law_FnExactValidFraction b0 w0))
#print axioms holds
end Go.Proofs.Ytnimdpcfgfkdhaa
