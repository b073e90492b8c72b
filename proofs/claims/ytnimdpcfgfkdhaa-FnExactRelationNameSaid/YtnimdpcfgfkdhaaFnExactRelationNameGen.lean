/-
  The runs of the functions of this seat, in open form. Printed by a program of mine (gen.py).
-/
import Derived.Test.YtnimdpcfgfkdhaaProg
import Derived.Test.YtnimdpcfgfkdhaaEngGua
namespace Go.Proofs.Ytnimdpcfgfkdhaa
open Go Go.Eng

@[simp] abbrev n_laws_FnExactRelationName : Nat := 3
@[simp] abbrev n_laws_FnExactRelationNamed : Nat := 4
@[simp] abbrev n_laws_FnExactMiddleOf : Nat := 5
@[simp] abbrev n_laws_FnExactValidFraction : Nat := 6
@[simp] abbrev n_laws_FnExactCommonArea : Nat := 7
@[simp] abbrev n_laws_FnExactRelationOf : Nat := 8
@[simp] abbrev n_spec_RelationName : Nat := 9
@[simp] abbrev n_impl_RelationName : Nat := 10
@[simp] abbrev n_spec_RelationNamed : Nat := 11
@[simp] abbrev n_impl_RelationNamed : Nat := 12
@[simp] abbrev n_spec_MiddleOf : Nat := 13
@[simp] abbrev n_laws_toBox : Nat := 14
@[simp] abbrev n_impl_MiddleOf : Nat := 15
@[simp] abbrev n_laws_eqSpot : Nat := 16
@[simp] abbrev n_spec_ValidFraction : Nat := 17
@[simp] abbrev n_laws_toFraction : Nat := 18
@[simp] abbrev n_impl_ValidFraction : Nat := 19
@[simp] abbrev n_spec_CommonArea : Nat := 20
@[simp] abbrev n_impl_CommonArea : Nat := 21
@[simp] abbrev n_spec_RelationOf : Nat := 22
@[simp] abbrev n_impl_RelationOf : Nat := 23
@[simp] abbrev n_spec_l00In : Nat := 24
@[simp] abbrev n_spec_l20Names : Nat := 25
@[simp] abbrev n_impl_within : Nat := 26
@[simp] abbrev n_impl_relationNames : Nat := 27
@[simp] abbrev n_slices_Index_string_string : Nat := 28
@[simp] abbrev n_spec_l02Box : Nat := 29
@[simp] abbrev n_impl_ValidBox : Nat := 30
@[simp] abbrev n_spec_l22Ok : Nat := 31
@[simp] abbrev n_impl_gcd : Nat := 32
@[simp] abbrev n_spec_l00Min : Nat := 33
@[simp] abbrev n_spec_l00Max : Nat := 34
@[simp] abbrev n_spec_l20Relation : Nat := 35
@[simp] abbrev n_impl_relation : Nat := 36
@[simp] abbrev n_spec_l22Gcd : Nat := 37
@[simp] abbrev n_spec_l05Size : Nat := 38
@[simp] abbrev n_impl_abs : Nat := 39
theorem mixed : Try.prog.follows .mixedOrders = true := by kernel_rfl
theorem hb_laws_FnExactRelationName : HasBody Try.prog n_laws_FnExactRelationName := ⟨Try.f3, _, Try.func3, rfl, by decide⟩
theorem e_laws_FnExactRelationName (env : Nat → Contract) (x0 : AV) (h : Heap) : denFn Try.prog env n_laws_FnExactRelationName [x0] h = obind2 (aCall (env n_spec_RelationName) [x0] h) fun v1 h2 => obind2 (aCall (env n_impl_RelationName) [x0] h2) fun v3 h4 => obind (aCmp .neq .plain v3 v1) fun v5 => condB v5 (some ((bv false), h4)) (some ((bv true), h4)) := by kernel_rfl
theorem hb_spec_RelationName : HasBody Try.prog n_spec_RelationName := ⟨Try.f9, _, Try.func9, rfl, by decide⟩
theorem e_spec_RelationName (env : Nat → Contract) (x0 : AV) (h : Heap) : denFn Try.prog env n_spec_RelationName [x0] h = obind2 (aCall (env n_spec_l00In) [x0, (iv 0), (iv 6)] h) fun v1 h2 => obind (aUn .not v1) fun v3 => condB v3 (some ((sv ⟨#[]⟩), h2)) (obind2 (aCall (env n_spec_l20Names) [] h2) fun v4 h5 => obind (aIndexAddr 1 v4 x0 h5) fun v6 => obind (aLoad false 1 v6 h5) fun v7 => some (v7, h5)) := by kernel_rfl
theorem hb_impl_RelationName : HasBody Try.prog n_impl_RelationName := ⟨Try.f10, _, Try.func10, rfl, by decide⟩
theorem e_impl_RelationName (env : Nat → Contract) (x0 : AV) (h : Heap) : denFn Try.prog env n_impl_RelationName [x0] h = obind2 (aCall (env n_impl_within) [x0, (iv 0), (iv 6)] h) fun v1 h2 => obind (aUn .not v1) fun v3 => condB v3 (some ((sv ⟨#[]⟩), h2)) (obind2 (aCall (env n_impl_relationNames) [] h2) fun v4 h5 => obind (aIndexAddr 1 v4 x0 h5) fun v6 => obind (aLoad false 1 v6 h5) fun v7 => some (v7, h5)) := by kernel_rfl
theorem hb_spec_l00In : HasBody Try.prog n_spec_l00In := ⟨Try.f24, _, Try.func24, rfl, by decide⟩
theorem e_spec_l00In (env : Nat → Contract) (x0 x1 x2 : AV) (h : Heap) : denFn Try.prog env n_spec_l00In [x0, x1, x2] h = obind (aBin .geq x0 x1) fun v1 => obind2 (guardB v1 true (obind (aBin .leq x0 x2) fun v2 => some (v2, h)) (some (und, h))) fun v3 h4 => obind (aPick v1 v3 (bv false)) fun v5 => some (v5, h4) := by kernel_rfl
theorem hb_spec_l20Names : HasBody Try.prog n_spec_l20Names := ⟨Try.f25, _, Try.func25, rfl, by decide⟩
theorem e_spec_l20Names (env : Nat → Contract) (h : Heap) : denFn Try.prog env n_spec_l20Names [] h = obind2 (aBuildSlice [(sv ⟨#[]⟩)] 7 [(0, (sv ⟨#[110, 111, 110, 101]⟩)), (1, (sv ⟨#[114, 105, 103, 104, 116]⟩)), (2, (sv ⟨#[97, 98, 111, 118, 101]⟩)), (3, (sv ⟨#[98, 101, 108, 111, 119]⟩)), (4, (sv ⟨#[117, 112, 112, 101, 114]⟩)), (5, (sv ⟨#[108, 111, 119, 101, 114]⟩)), (6, (sv ⟨#[105, 110, 115, 105, 100, 101]⟩))] h) fun v1 h2 => some (v1, h2) := by kernel_rfl
theorem hb_impl_within : HasBody Try.prog n_impl_within := ⟨Try.f26, _, Try.func26, rfl, by decide⟩
theorem e_impl_within (env : Nat → Contract) (x0 x1 x2 : AV) (h : Heap) : denFn Try.prog env n_impl_within [x0, x1, x2] h = obind (aBin .geq x0 x1) fun v1 => obind2 (guardB v1 true (obind (aBin .leq x0 x2) fun v2 => some (v2, h)) (some (und, h))) fun v3 h4 => obind (aPick v1 v3 (bv false)) fun v5 => some (v5, h4) := by kernel_rfl
theorem hb_impl_relationNames : HasBody Try.prog n_impl_relationNames := ⟨Try.f27, _, Try.func27, rfl, by decide⟩
theorem e_impl_relationNames (env : Nat → Contract) (h : Heap) : denFn Try.prog env n_impl_relationNames [] h = obind2 (aBuildSlice [(sv ⟨#[]⟩)] 7 [(0, (sv ⟨#[110, 111, 110, 101]⟩)), (1, (sv ⟨#[114, 105, 103, 104, 116]⟩)), (2, (sv ⟨#[97, 98, 111, 118, 101]⟩)), (3, (sv ⟨#[98, 101, 108, 111, 119]⟩)), (4, (sv ⟨#[117, 112, 112, 101, 114]⟩)), (5, (sv ⟨#[108, 111, 119, 101, 114]⟩)), (6, (sv ⟨#[105, 110, 115, 105, 100, 101]⟩))] h) fun v1 h2 => some (v1, h2) := by kernel_rfl
end Go.Proofs.Ytnimdpcfgfkdhaa
