/-
  The law FnExactMiddleOf holds: for every box the law returns true, and its argument reads behind the call as before. No condition.
-/
import Derived.Test.YtmdogimhcgljcaaGenAll

import Derived.Test.YtmdogimhcgljcaaRows
namespace Go.Proofs.Ytmdogimhcgljcaa
open Go Go.Eng Go.Eng.Cod

def within (a b c : Int) : Bool := decide (b ≤ a) && decide (a ≤ c)
theorem nil_ok : EnvOK Try.prog (envL []) := envL_ok (fun _ h => by cases h)

theorem ok_impl_within : PureOK Try.prog n_impl_within (T3 within) := pureT3 nil_ok mixed hb_impl_within fun a b c => by
  simp [e_impl_within, within]
theorem ok_spec_l00In : PureOK Try.prog n_spec_l00In (T3 within) := pureT3 nil_ok mixed hb_spec_l00In fun a b c => by
  simp [e_spec_l00In, within]
def validBox (b : Box) : Bool := within b.x1 0 b.x2 && within b.y1 0 b.y2 && decide (b.x2 ≤ 4095) && decide (b.y2 ≤ 4095)
theorem ok_impl_ValidBox : PureOK Try.prog n_impl_ValidBox (T1 validBox) :=
  pureT1 (envL_ok (l := [(n_impl_within, .pure (T3 within))]) (by simpa [ContractOK] using ok_impl_within)) mixed hb_impl_ValidBox fun b => by
  simp [e_impl_ValidBox, envL, aBox, aLoad, cut, validBox]
theorem ok_spec_l02Box : PureOK Try.prog n_spec_l02Box (T1 validBox) :=
  pureT1 (envL_ok (l := [(n_spec_l00In, .pure (T3 within))]) (by simpa [ContractOK] using ok_spec_l00In)) mixed hb_spec_l02Box fun b => by
  simp [e_spec_l02Box, envL, aBox, aLoad, cut, validBox]
def middleOf (b : Box) : Spot × Int := bif validBox b then (⟨wr (b.x1 + b.x2), wr (b.y1 + b.y2)⟩, 0) else (⟨0, 0⟩, 1)
theorem ok_impl_MiddleOf : PureOK Try.prog n_impl_MiddleOf (T1 middleOf) :=
  pureT1 (envL_ok (l := [(n_impl_ValidBox, .pure (T1 validBox))]) (by simpa [ContractOK] using ok_impl_ValidBox)) mixed hb_impl_MiddleOf fun b => by
  simp [e_impl_MiddleOf, envL, aBox, aLoad, cut, aStore, splice, aBuild, aFill, retL, resL, pack, middleOf]
  cases validBox b <;> rfl
theorem ok_spec_MiddleOf : PureOK Try.prog n_spec_MiddleOf (T1 middleOf) :=
  pureT1 (envL_ok (l := [(n_spec_l02Box, .pure (T1 validBox))]) (by simpa [ContractOK] using ok_spec_l02Box)) mixed hb_spec_MiddleOf fun b => by
  simp [e_spec_MiddleOf, envL, aBox, aLoad, cut, aStore, splice, aBuild, aFill, retL, resL, pack, middleOf]
  cases validBox b <;> rfl
theorem ok_laws_toBox : PureOK Try.prog n_laws_toBox (T1 fun b : Box => b) :=
  pureT1 (envL_ok (l := []) (by simp)) mixed hb_laws_toBox fun b => by
  simp [e_laws_toBox, envL, aBox, aLoad, cut, aStore, splice, aBuild, aFill, retL, resL, pack]
theorem ok_laws_eqSpot : PureOK Try.prog n_laws_eqSpot (T2 fun a b : Spot => decide (a = b)) :=
  pureT2 (envL_ok (l := []) (by simp)) mixed hb_laws_eqSpot fun a b => by
  simp [e_laws_eqSpot, envL, aBox, aLoad, cut, aStore, splice, aBuild, aFill, retL, resL, pack]
  obtain ⟨a1, a2⟩ := a
  obtain ⟨b1, b2⟩ := b
  simp
theorem ok_law : PureOK Try.prog n_laws_FnExactMiddleOf (T1 fun _ : Box => true) :=
  pureT1 (envL_ok (l := [(n_laws_toBox, .pure (T1 fun b : Box => b)), (n_spec_MiddleOf, .pure (T1 middleOf)), (n_impl_MiddleOf, .pure (T1 middleOf)), (n_laws_eqSpot, .pure (T2 fun a b : Spot => decide (a = b)))])
    (by simpa [ContractOK] using ⟨ok_laws_toBox, ok_spec_MiddleOf, ok_impl_MiddleOf, ok_laws_eqSpot⟩)) mixed hb_laws_FnExactMiddleOf fun b => by
  simp [e_laws_FnExactMiddleOf, envL, aBox, aLoad, cut, aStore, splice, aBuild, aFill, retL, resL, pack]

theorem isV_box {a : AV} (h : IsV Try.prog 28 a) : ∃ b : Box, a = enc b := by
  obtain ⟨cs, rfl, h0⟩ := IsV.structE Try.underlying28 h
  replace h := IsC.structE Try.underlying28 h0
  obtain ⟨c1, r1, rfl, h1, k1⟩ := IsFs.consE h
  obtain ⟨c2, r2, rfl, h2, k2⟩ := IsFs.consE k1
  obtain ⟨c3, r3, rfl, h3, k3⟩ := IsFs.consE k2
  obtain ⟨c4, r4, rfl, h4, k4⟩ := IsFs.consE k3
  cases IsFs.nilE k4
  obtain ⟨n1, rfl, _⟩ := IsC.intE Try.underlying2 h1
  obtain ⟨n2, rfl, _⟩ := IsC.intE Try.underlying2 h2
  obtain ⟨n3, rfl, _⟩ := IsC.intE Try.underlying2 h3
  obtain ⟨n4, rfl, _⟩ := IsC.intE Try.underlying2 h4
  exact ⟨⟨n1, n2, n3, n4⟩, rfl⟩

theorem own : ownKnob Try.prog.godebug = none := by kernel_rfl
theorem laidOut : laidOutB Try.prog = true := by kernel_rfl

set_option maxRecDepth 100000 in
theorem holds : Rows.FnExactMiddleOfSaid :=
  OpenClaim.holds_of_wide 5 Try.f5 rfl rfl rfl rfl rfl rfl rfl ⟨rfl, rfl, rfl, rfl, rfl⟩ rfl rfl rfl rfl rfl (by kernel_rfl) Try.func5 (by kernel_rfl)
    (of_decide_eq_true (by kernel_rfl)) (by unfold Func.isWrapper; rw [if_neg (by decide +kernel)]; exact ⟨rfl, rfl⟩)
    (fun os started H enc _ => law_lifted (C := Try.checked) (s := Rows.fnExactMiddleOfSpec) own started (by kernel_rfl) Try.func5
      (ChangeSpec.witness6 (enc := enc) (C := Try.checked) false ⟨#[], #[.agg #[.int .i64 0, .int .i64 0, .int .i64 0, .int .i64 0]], []⟩ 8 (by kernel_rfl) (by kernel_rfl) (by kernel_rfl) (by kernel_rfl))
      laidOut rfl (tb := 4) rfl Try.underlying4 (ts := [28, 2]) (by kernel_rfl)
      (fun ds h => by match ds, h with | [d], _ => rfl)
      hb_laws_FnExactMiddleOf ok_law
      (fun l h => by
        obtain ⟨a, r, rfl, h1, h2⟩ := h
        cases h2
        obtain ⟨b, rfl⟩ := isV_box h1
        exact T1_enc _ b))
#print axioms holds
end Go.Proofs.Ytmdogimhcgljcaa
