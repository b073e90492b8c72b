/-
  The law FnExactFlipBox holds, for all arguments: it returns true, and its arguments read behind the call as before. No condition.
-/
import Derived.Test.YtmdogimhcgljcaaFnExactFlipBoxGen
import Derived.Test.YtmdogimhcgljcaaRows
namespace Go.Proofs.Ytmdogimhcgljcaa
open Go Go.Eng Go.Eng.Cod

theorem nil_ok : EnvOK Try.prog (envL []) := envL_ok (fun _ h => by cases h)

def within (a b c : Int) : Bool := decide (b ≤ a) && decide (a ≤ c)

theorem ok_impl_within : PureOK Try.prog n_impl_within (T3 within) := pureT3 nil_ok mixed hb_impl_within fun a b c => by
  simp [e_impl_within, within]

theorem ok_spec_l00In : PureOK Try.prog n_spec_l00In (T3 within) := pureT3 nil_ok mixed hb_spec_l00In fun a b c => by
  simp [e_spec_l00In, within]

def validBox (b : Box) : Bool := within b.x1 0 b.x2 && within b.y1 0 b.y2 && decide (b.x2 ≤ 4095) && decide (b.y2 ≤ 4095)

theorem ok_impl_ValidBox : PureOK Try.prog n_impl_ValidBox (T1 validBox) :=
  pureT1 (envL_ok (l := [(n_impl_within, .pure (T3 within))]) (by simpa [ContractOK] using ok_impl_within)) mixed hb_impl_ValidBox fun b => by
  simp [e_impl_ValidBox, envL, aBox, aLoad, cut, validBox]

theorem ok_spec_l02Box : PureOK Try.prog n_spec_l02Box (T1 validBox) :=
  pureT1 (envL_ok (l := [(n_spec_l00In, .pure (T3 within))]) (by simpa [ContractOK] using ok_spec_l00In)) mixed hb_spec_l02Box fun b => by
  simp [e_spec_l02Box, envL, aBox, aLoad, cut, validBox]

theorem ok_laws_toBox : PureOK Try.prog n_laws_toBox (T1 fun b : Box => b) := pureT1 nil_ok mixed hb_laws_toBox fun b => by
  simp [e_laws_toBox, aBox, aLoad, cut, aStore, splice, retL, resL, pack]

theorem ok_laws_eqBox : PureOK Try.prog n_laws_eqBox (T2 fun a b : Box => decide (a = b)) := pureT2 nil_ok mixed hb_laws_eqBox fun a b => by
  simp [e_laws_eqBox, aBox, aLoad, cut]
  obtain ⟨a1, a2, a3, a4⟩ := a
  obtain ⟨b1, b2, b3, b4⟩ := b
  simp

def flipBox (b : Box) : Box × Int := bif validBox b then (⟨b.x1, wr (4095 - b.y2), b.x2, wr (4095 - b.y1)⟩, 0) else (⟨0, 0, 0, 0⟩, 1)

theorem ok_impl_FlipBox : PureOK Try.prog n_impl_FlipBox (T1 flipBox) :=
  pureT1 (envL_ok (l := [(n_impl_ValidBox, .pure (T1 validBox))]) (by simpa [ContractOK] using ok_impl_ValidBox)) mixed hb_impl_FlipBox fun b => by
  simp [e_impl_FlipBox, envL, aBox, aLoad, cut, aStore, splice, aBuild, aFill, retL, resL, pack, flipBox]
  cases validBox b <;> rfl

theorem ok_spec_FlipBox : PureOK Try.prog n_spec_FlipBox (T1 flipBox) :=
  pureT1 (envL_ok (l := [(n_spec_l02Box, .pure (T1 validBox))]) (by simpa [ContractOK] using ok_spec_l02Box)) mixed hb_spec_FlipBox fun b => by
  simp [e_spec_FlipBox, envL, aBox, aLoad, cut, aStore, splice, aBuild, aFill, retL, resL, pack, flipBox]
  cases validBox b <;> rfl

theorem ok_laws_FnExactFlipBox : PureOK Try.prog n_laws_FnExactFlipBox (T1 fun _ : Box => true) :=
  pureT1 (envL_ok (l := [(n_laws_toBox, .pure (T1 fun b : Box => b)), (n_spec_FlipBox, .pure (T1 flipBox)), (n_impl_FlipBox, .pure (T1 flipBox)), (n_laws_eqBox, .pure (T2 fun a b : Box => decide (a = b)))])
    (by simpa [ContractOK] using ⟨ok_laws_toBox, ok_spec_FlipBox, ok_impl_FlipBox, ok_laws_eqBox⟩)) mixed hb_laws_FnExactFlipBox fun b => by
  simp [e_laws_FnExactFlipBox, envL, aBox, aLoad, cut, aStore, splice]
theorem law_FnExactFlipBox (b : Box) (_ : Row.fine b) : T1 (fun _ : Box => true) [enc b] = some (bv true) := T1_enc _ b

theorem isC_2 {cs : List AV} (h : IsC Try.prog 2 cs) : ∃ x : Int, cs = Row.cells x ∧ Row.fine x := by
  obtain ⟨n, rfl, hn⟩ := IsC.intE Try.underlying2 h
  exact ⟨n, rfl, fine_int hn⟩
theorem isC_28 {cs : List AV} (h : IsC Try.prog 28 cs) : ∃ x : Box, cs = Row.cells x ∧ Row.fine x := by
  replace h := IsC.structE Try.underlying28 h
  obtain ⟨c0, r0, rfl, q0, k0⟩ := IsFs.consE h
  obtain ⟨c1, r1, rfl, q1, k1⟩ := IsFs.consE k0
  obtain ⟨c2, r2, rfl, q2, k2⟩ := IsFs.consE k1
  obtain ⟨c3, r3, rfl, q3, k3⟩ := IsFs.consE k2
  cases IsFs.nilE k3
  obtain ⟨v0, rfl, w0⟩ := isC_2 q0
  obtain ⟨v1, rfl, w1⟩ := isC_2 q1
  obtain ⟨v2, rfl, w2⟩ := isC_2 q2
  obtain ⟨v3, rfl, w3⟩ := isC_2 q3
  exact ⟨⟨v0, v1, v2, v3⟩, rfl, w0, w1, w2, w3⟩
theorem own : ownKnob Try.prog.godebug = none := by kernel_rfl
theorem laidOut : laidOutB Try.prog = true := by kernel_rfl

set_option maxRecDepth 100000 in
theorem holds : Rows.FnExactFlipBoxSaid :=
  OpenClaim.holds_of_wide 7 Try.f7 rfl rfl rfl rfl rfl rfl rfl ⟨rfl, rfl, rfl, rfl, rfl⟩ rfl rfl rfl rfl rfl (by kernel_rfl) Try.func7 (by kernel_rfl)
    (of_decide_eq_true (by kernel_rfl)) (by unfold Func.isWrapper; rw [if_neg (by decide +kernel)]; exact ⟨rfl, rfl⟩)
    (fun os started H enc _ => law_lifted (C := Try.checked) (s := Rows.fnExactFlipBoxSpec) own started (by kernel_rfl) Try.func7
      (ChangeSpec.witness6 (enc := enc) (C := Try.checked) false ⟨#[], #[.agg #[.int .i64 0, .int .i64 0, .int .i64 0, .int .i64 0]], []⟩ 8 (by kernel_rfl) (by kernel_rfl) (by kernel_rfl) (by kernel_rfl))
      laidOut rfl (tb := 4) rfl Try.underlying4 (ts := [28, 2]) (by kernel_rfl)
      (fun ds h => by match ds, h with | [d0], _ => rfl)
      hb_laws_FnExactFlipBox ok_laws_FnExactFlipBox (by
    intro l h
    obtain ⟨a0, l0, rfl, g0, k0⟩ := h
    cases k0
    obtain ⟨c0, rfl, m0⟩ := IsV.structE Try.underlying28 g0
    obtain ⟨b0, rfl, w0⟩ := isC_28 m0
    exact law_FnExactFlipBox b0 w0))
#print axioms holds
end Go.Proofs.Ytmdogimhcgljcaa
