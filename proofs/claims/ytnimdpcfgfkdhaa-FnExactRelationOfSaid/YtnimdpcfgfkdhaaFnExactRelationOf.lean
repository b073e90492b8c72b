/-
  The law FnExactRelationOf holds, for all arguments: it returns true, and its arguments read behind the call as before. No condition.
-/
import Derived.Test.YtnimdpcfgfkdhaaFnExactRelationOfGen
import Derived.Test.YtnimdpcfgfkdhaaRows
namespace Go.Proofs.Ytnimdpcfgfkdhaa
open Go Go.Eng Go.Eng.Cod

theorem nil_ok : EnvOK Try.prog (envL []) := E0

def within (a b c : Int) : Bool := decide (b ≤ a) && decide (a ≤ c)

theorem ok_impl_within : PureOK Try.prog n_impl_within (T3 within) := pureT3 nil_ok mixed hb_impl_within fun a b c => by
  simp [e_impl_within, within]

theorem ok_spec_l00In : PureOK Try.prog n_spec_l00In (T3 within) := pureT3 nil_ok mixed hb_spec_l00In fun a b c => by
  simp [e_spec_l00In, within]

def validBox (b : Box) : Bool := within b.x1 0 b.x2 && within b.y1 0 b.y2 && decide (b.x2 ≤ 4095) && decide (b.y2 ≤ 4095)

theorem ok_impl_ValidBox : PureOK Try.prog n_impl_ValidBox (T1 validBox) :=
  pureT1 (E1 ok_impl_within) mixed hb_impl_ValidBox fun b => by
  simp [e_impl_ValidBox, envL, aBox, aLoad, cut, validBox]

theorem ok_spec_l02Box : PureOK Try.prog n_spec_l02Box (T1 validBox) :=
  pureT1 (E1 ok_spec_l00In) mixed hb_spec_l02Box fun b => by
  simp [e_spec_l02Box, envL, aBox, aLoad, cut, validBox]

theorem ok_laws_toBox : PureOK Try.prog n_laws_toBox (T1 fun b : Box => b) := pureT1 nil_ok mixed hb_laws_toBox fun b => by
  simp [e_laws_toBox, aBox, aLoad, cut, aStore, splice, retL, resL, pack]

def relation (a b : Box) : Int :=
  bif !decide (a = b) && (decide (a.x1 ≤ b.x1) && (decide (a.y1 ≤ b.y1) && (decide (b.x2 ≤ a.x2) && decide (b.y2 ≤ a.y2)))) then 6
  else bif decide (wr (a.x1 + a.x2) ≤ wr (2 * b.x1)) then
    bif decide (wr (2 * b.y2) ≤ wr (a.y1 + a.y2)) then 4 else bif decide (wr (a.y1 + a.y2) ≤ wr (2 * b.y1)) then 5 else 1
  else bif decide (b.y2 ≤ a.y1) then 2 else bif decide (a.y2 ≤ b.y1) then 3 else 0

theorem ok_impl_relation : PureOK Try.prog n_impl_relation (T2 relation) := pureT2 nil_ok mixed hb_impl_relation fun a b => by
  have hc := aCmp_box a b
  simp [e_impl_relation, aBox, aLoad, cut, hc.1, hc.2, relation]
  generalize decide (a = b) = c0
  generalize decide (a.x1 ≤ b.x1) = c1
  generalize decide (a.y1 ≤ b.y1) = c2
  generalize decide (b.x2 ≤ a.x2) = c3
  generalize decide (b.y2 ≤ a.y2) = c4
  generalize decide (wr (a.x1 + a.x2) ≤ wr (2 * b.x1)) = c5
  generalize decide (wr (2 * b.y2) ≤ wr (a.y1 + a.y2)) = c6
  generalize decide (wr (a.y1 + a.y2) ≤ wr (2 * b.y1)) = c7
  generalize decide (b.y2 ≤ a.y1) = c8
  generalize decide (a.y2 ≤ b.y1) = c9
  cases c5 <;> cases c1 <;> cases c2 <;> cases c3 <;> cases c4 <;> cases c0 <;> simp

theorem ok_spec_l20Relation : PureOK Try.prog n_spec_l20Relation (T2 relation) := pureT2 nil_ok mixed hb_spec_l20Relation fun a b => by
  have hc := aCmp_box a b
  simp [e_spec_l20Relation, aBox, aLoad, cut, hc.1, hc.2, relation]
  generalize decide (a = b) = c0
  generalize decide (a.x1 ≤ b.x1) = c1
  generalize decide (a.y1 ≤ b.y1) = c2
  generalize decide (b.x2 ≤ a.x2) = c3
  generalize decide (b.y2 ≤ a.y2) = c4
  generalize decide (wr (a.x1 + a.x2) ≤ wr (2 * b.x1)) = c5
  generalize decide (wr (2 * b.y2) ≤ wr (a.y1 + a.y2)) = c6
  generalize decide (wr (a.y1 + a.y2) ≤ wr (2 * b.y1)) = c7
  generalize decide (b.y2 ≤ a.y1) = c8
  generalize decide (a.y2 ≤ b.y1) = c9
  cases c5 <;> cases c1 <;> cases c2 <;> cases c3 <;> cases c4 <;> cases c0 <;> simp

def relationOf (a b : Box) : Int × Int := bif validBox a && validBox b then (relation a b, 0) else (0, 1)

theorem ok_impl_RelationOf : PureOK Try.prog n_impl_RelationOf (T2 relationOf) := pureT2 (E2 ok_impl_ValidBox ok_impl_relation) mixed hb_impl_RelationOf fun a b => by
  simp [e_impl_RelationOf, envL, aBox, aLoad, cut, relationOf]
  cases validBox a <;> cases validBox b <;> simp

theorem ok_spec_RelationOf : PureOK Try.prog n_spec_RelationOf (T2 relationOf) := pureT2 (E2 ok_spec_l02Box ok_spec_l20Relation) mixed hb_spec_RelationOf fun a b => by
  simp [e_spec_RelationOf, envL, aBox, aLoad, cut, relationOf]
  cases validBox a <;> cases validBox b <;> simp

theorem ok_laws_FnExactRelationOf : PureOK Try.prog n_laws_FnExactRelationOf (T2 fun _ _ : Box => true) :=
  pureT2 (E3 ok_laws_toBox ok_spec_RelationOf ok_impl_RelationOf) mixed hb_laws_FnExactRelationOf fun a b => by
  simp [e_laws_FnExactRelationOf, envL, aBox, aLoad, cut, aStore, splice]
theorem law_FnExactRelationOf (a b : Box) (_ : Row.fine a) (_ : Row.fine b) : T2 (fun _ _ : Box => true) [enc a, enc b] = some (bv true) := T2_enc _ a b

theorem isC_2 {cs : List AV} (h : IsC Try.prog 2 cs) : ∃ x : Int, cs = Row.cells x ∧ Row.fine x := by
  obtain ⟨n, rfl, hn⟩ := IsC.intE Try.underlying2 h
  exact ⟨n, rfl, fine_int hn⟩
theorem isC_28 {cs : List AV} (h : IsC Try.prog 28 cs) : ∃ x : Box, cs = Row.cells x ∧ Row.fine x := by
  replace h := IsC.structE Try.underlying28 h
  obtain ⟨c0, r0, rfl, q0, k0⟩ := IsFs.consE h
  obtain ⟨c1, r1, rfl, q1, k1⟩ := IsFs.consE k0
  obtain ⟨c2, r2, rfl, q2, k2⟩ := IsFs.consE k1
  obtain ⟨c3, r3, rfl, q3, k3⟩ := IsFs.consE k2
  cases IsFs.nilE k3
  obtain ⟨v0, rfl, w0⟩ := isC_2 q0
  obtain ⟨v1, rfl, w1⟩ := isC_2 q1
  obtain ⟨v2, rfl, w2⟩ := isC_2 q2
  obtain ⟨v3, rfl, w3⟩ := isC_2 q3
  exact ⟨⟨v0, v1, v2, v3⟩, rfl, w0, w1, w2, w3⟩
theorem own : ownKnob Try.prog.godebug = none := by kernel_rfl
theorem laidOut : laidOutB Try.prog = true := by kernel_rfl

set_option maxRecDepth 100000 in
theorem holds : Rows.FnExactRelationOfSaid :=
  OpenClaim.holds_of_wide 8 Try.f8 rfl rfl rfl rfl rfl rfl rfl ⟨rfl, rfl, rfl, rfl, rfl⟩ rfl rfl rfl rfl rfl (by kernel_rfl) Try.func8 (by kernel_rfl)
    (of_decide_eq_true (by kernel_rfl)) (by unfold Func.isWrapper; rw [if_neg (by decide +kernel)]; exact ⟨rfl, rfl⟩)
    (fun os started H enc _ => law_lifted (C := Try.checked) (s := Rows.fnExactRelationOfSpec) own started (by kernel_rfl) Try.func8
      (ChangeSpec.witness6 (enc := enc) (C := Try.checked) false ⟨#[], #[.agg #[.int .i64 0, .int .i64 0, .int .i64 0, .int .i64 0], .agg #[.int .i64 0, .int .i64 0, .int .i64 0, .int .i64 0]], []⟩ 8 (by kernel_rfl) (by kernel_rfl) (by kernel_rfl) (by kernel_rfl))
      laidOut rfl (tb := 4) rfl Try.underlying4 (ts := [28, 2]) (by kernel_rfl)
      (fun ds h => by match ds, h with | [d0, d1], _ => rfl)
      hb_laws_FnExactRelationOf ok_laws_FnExactRelationOf (by
    intro l h
    obtain ⟨a0, l0, rfl, g0, k0⟩ := h
    obtain ⟨a1, l1, rfl, g1, k1⟩ := k0
    cases k1
    obtain ⟨c0, rfl, m0⟩ := IsV.structE Try.underlying28 g0
    obtain ⟨b0, rfl, w0⟩ := isC_28 m0
    obtain ⟨c1, rfl, m1⟩ := IsV.structE Try.underlying28 g1
    obtain ⟨b1, rfl, w1⟩ := isC_28 m1
    exact law_FnExactRelationOf b0 b1 w0 w1))
#print axioms holds
end Go.Proofs.Ytnimdpcfgfkdhaa
