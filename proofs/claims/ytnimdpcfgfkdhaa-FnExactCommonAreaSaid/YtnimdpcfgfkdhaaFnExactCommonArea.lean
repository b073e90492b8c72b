/-
  The law FnExactCommonArea holds, for all arguments: it returns true, and its arguments read behind the call as before. No condition.
-/
import Derived.Test.YtnimdpcfgfkdhaaFnExactCommonAreaGen
import Derived.Test.YtnimdpcfgfkdhaaRows
namespace Go.Proofs.Ytnimdpcfgfkdhaa
open Go Go.Eng Go.Eng.Cod

theorem nil_ok : EnvOK Try.prog (envL []) := E0

def within (a b c : Int) : Bool := decide (b ≤ a) && decide (a ≤ c)

theorem ok_impl_within : PureOK Try.prog n_impl_within (T3 within) := pureT3 nil_ok mixed hb_impl_within fun a b c => by
  simp [e_impl_within, within]

theorem ok_spec_l00In : PureOK Try.prog n_spec_l00In (T3 within) := pureT3 nil_ok mixed hb_spec_l00In fun a b c => by
  simp [e_spec_l00In, within]

theorem ok_spec_l00Min : PureOK Try.prog n_spec_l00Min (T2 fun a b : Int => min a b) := pureT2 nil_ok mixed hb_spec_l00Min fun a b => by
  simp [e_spec_l00Min, minI]

theorem ok_spec_l00Max : PureOK Try.prog n_spec_l00Max (T2 fun a b : Int => max a b) := pureT2 nil_ok mixed hb_spec_l00Max fun a b => by
  simp [e_spec_l00Max, maxI]

def validBox (b : Box) : Bool := within b.x1 0 b.x2 && within b.y1 0 b.y2 && decide (b.x2 ≤ 4095) && decide (b.y2 ≤ 4095)

theorem ok_impl_ValidBox : PureOK Try.prog n_impl_ValidBox (T1 validBox) :=
  pureT1 (E1 ok_impl_within) mixed hb_impl_ValidBox fun b => by
  simp [e_impl_ValidBox, envL, aBox, aLoad, cut, validBox]

theorem ok_spec_l02Box : PureOK Try.prog n_spec_l02Box (T1 validBox) :=
  pureT1 (E1 ok_spec_l00In) mixed hb_spec_l02Box fun b => by
  simp [e_spec_l02Box, envL, aBox, aLoad, cut, validBox]

theorem ok_laws_toBox : PureOK Try.prog n_laws_toBox (T1 fun b : Box => b) := pureT1 nil_ok mixed hb_laws_toBox fun b => by
  simp [e_laws_toBox, aBox, aLoad, cut, aStore, splice, retL, resL, pack]

def commonArea (a b : Box) : Int × Int := bif validBox a && validBox b then (wr (max (wr (min a.x2 b.x2 - max a.x1 b.x1)) 0 * max (wr (min a.y2 b.y2 - max a.y1 b.y1)) 0), 0) else (0, 1)

theorem ok_impl_CommonArea : PureOK Try.prog n_impl_CommonArea (T2 commonArea) :=
  pureT2 (E1 ok_impl_ValidBox) mixed hb_impl_CommonArea fun a b => by
  simp [e_impl_CommonArea, envL, aBox, aLoad, cut, commonArea]
  cases validBox a <;> cases validBox b <;> simp

theorem ok_spec_CommonArea : PureOK Try.prog n_spec_CommonArea (T2 commonArea) :=
  pureT2 (E3 ok_spec_l02Box ok_spec_l00Min ok_spec_l00Max) mixed hb_spec_CommonArea fun a b => by
  simp [e_spec_CommonArea, envL, aBox, aLoad, cut, commonArea, Int.max_comm 0]
  cases validBox a <;> cases validBox b <;> simp

theorem ok_laws_FnExactCommonArea : PureOK Try.prog n_laws_FnExactCommonArea (T2 fun _ _ : Box => true) :=
  pureT2 (E3 ok_laws_toBox ok_spec_CommonArea ok_impl_CommonArea) mixed hb_laws_FnExactCommonArea fun a b => by
  simp [e_laws_FnExactCommonArea, envL, aBox, aLoad, cut, aStore, splice]
theorem law_FnExactCommonArea (a b : Box) (_ : Row.fine a) (_ : Row.fine b) : T2 (fun _ _ : Box => true) [enc a, enc b] = some (bv true) := T2_enc _ a b

theorem isC_2 {cs : List AV} (h : IsC Try.prog 2 cs) : ∃ x : Int, cs = Row.cells x ∧ Row.fine x := by
  obtain ⟨n, rfl, hn⟩ := IsC.intE Try.underlying2 h
  exact ⟨n, rfl, fine_int hn⟩
theorem isC_28 {cs : List AV} (h : IsC Try.prog 28 cs) : ∃ x : Box, cs = Row.cells x ∧ Row.fine x := by
  replace h := IsC.structE Try.underlying28 h
  obtain ⟨c0, r0, rfl, q0, k0⟩ := IsFs.consE h
  obtain ⟨c1, r1, rfl, q1, k1⟩ := IsFs.consE k0
  obtain ⟨c2, r2, rfl, q2, k2⟩ := IsFs.consE k1
  obtain ⟨c3, r3, rfl, q3, k3⟩ := IsFs.consE k2
  cases IsFs.nilE k3
  obtain ⟨v0, rfl, w0⟩ := isC_2 q0
  obtain ⟨v1, rfl, w1⟩ := isC_2 q1
  obtain ⟨v2, rfl, w2⟩ := isC_2 q2
  obtain ⟨v3, rfl, w3⟩ := isC_2 q3
  exact ⟨⟨v0, v1, v2, v3⟩, rfl, w0, w1, w2, w3⟩
theorem own : ownKnob Try.prog.godebug = none := by kernel_rfl
theorem laidOut : laidOutB Try.prog = true := by kernel_rfl

set_option maxRecDepth 100000 in
theorem holds : Rows.FnExactCommonAreaSaid :=
  OpenClaim.holds_of_wide 7 Try.f7 rfl rfl rfl rfl rfl rfl rfl ⟨rfl, rfl, rfl, rfl, rfl⟩ rfl rfl rfl rfl rfl (by kernel_rfl) Try.func7 (by kernel_rfl)
    (of_decide_eq_true (by kernel_rfl)) (by unfold Func.isWrapper; rw [if_neg (by decide +kernel)]; exact ⟨rfl, rfl⟩)
    (fun os started H enc _ => law_lifted (C := Try.checked) (s := Rows.fnExactCommonAreaSpec) own started (by kernel_rfl) Try.func7
      (ChangeSpec.witness6 (enc := enc) (C := Try.checked) false ⟨#[], #[.agg #[.int .i64 0, .int .i64 0, .int .i64 0, .int .i64 0], .agg #[.int .i64 0, .int .i64 0, .int .i64 0, .int .i64 0]], []⟩ 8 (by kernel_rfl) (by kernel_rfl) (by kernel_rfl) (by kernel_rfl))
      laidOut rfl (tb := 4) rfl Try.underlying4 (ts := [28, 2]) (by kernel_rfl)
      (fun ds h => by match ds, h with | [d0, d1], _ => rfl)
      hb_laws_FnExactCommonArea ok_laws_FnExactCommonArea (by
    intro l h
    obtain ⟨a0, l0, rfl, g0, k0⟩ := h
    obtain ⟨a1, l1, rfl, g1, k1⟩ := k0
    cases k1
    obtain ⟨c0, rfl, m0⟩ := IsV.structE Try.underlying28 g0
    obtain ⟨b0, rfl, w0⟩ := isC_28 m0
    obtain ⟨c1, rfl, m1⟩ := IsV.structE Try.underlying28 g1
    obtain ⟨b1, rfl, w1⟩ := isC_28 m1
    exact law_FnExactCommonArea b0 b1 w0 w1))
#print axioms holds
end Go.Proofs.Ytnimdpcfgfkdhaa
