/-
  The runs of the functions of this seat, in open form. Printed by a program of mine (gen.py).
-/
import Derived.Test.YtnimdpcfgfkdhaaProg
import Derived.Test.YtnimdpcfgfkdhaaEngGua
namespace Go.Proofs.Ytnimdpcfgfkdhaa
open Go Go.Eng

@[simp] abbrev n_laws_FnExactRelationName : Nat := 3
@[simp] abbrev n_laws_FnExactRelationNamed : Nat := 4
@[simp] abbrev n_laws_FnExactMiddleOf : Nat := 5
@[simp] abbrev n_laws_FnExactValidFraction : Nat := 6
@[simp] abbrev n_laws_FnExactCommonArea : Nat := 7
@[simp] abbrev n_laws_FnExactRelationOf : Nat := 8
@[simp] abbrev n_spec_RelationName : Nat := 9
@[simp] abbrev n_impl_RelationName : Nat := 10
@[simp] abbrev n_spec_RelationNamed : Nat := 11
@[simp] abbrev n_impl_RelationNamed : Nat := 12
@[simp] abbrev n_spec_MiddleOf : Nat := 13
@[simp] abbrev n_laws_toBox : Nat := 14
@[simp] abbrev n_impl_MiddleOf : Nat := 15
@[simp] abbrev n_laws_eqSpot : Nat := 16
@[simp] abbrev n_spec_ValidFraction : Nat := 17
@[simp] abbrev n_laws_toFraction : Nat := 18
@[simp] abbrev n_impl_ValidFraction : Nat := 19
@[simp] abbrev n_spec_CommonArea : Nat := 20
@[simp] abbrev n_impl_CommonArea : Nat := 21
@[simp] abbrev n_spec_RelationOf : Nat := 22
@[simp] abbrev n_impl_RelationOf : Nat := 23
@[simp] abbrev n_spec_l00In : Nat := 24
@[simp] abbrev n_spec_l20Names : Nat := 25
@[simp] abbrev n_impl_within : Nat := 26
@[simp] abbrev n_impl_relationNames : Nat := 27
@[simp] abbrev n_slices_Index_string_string : Nat := 28
@[simp] abbrev n_spec_l02Box : Nat := 29
@[simp] abbrev n_impl_ValidBox : Nat := 30
@[simp] abbrev n_spec_l22Ok : Nat := 31
@[simp] abbrev n_impl_gcd : Nat := 32
@[simp] abbrev n_spec_l00Min : Nat := 33
@[simp] abbrev n_spec_l00Max : Nat := 34
@[simp] abbrev n_spec_l20Relation : Nat := 35
@[simp] abbrev n_impl_relation : Nat := 36
@[simp] abbrev n_spec_l22Gcd : Nat := 37
@[simp] abbrev n_spec_l05Size : Nat := 38
@[simp] abbrev n_impl_abs : Nat := 39
theorem mixed : Try.prog.follows .mixedOrders = true := by kernel_rfl
theorem hb_laws_FnExactMiddleOf : HasBody Try.prog n_laws_FnExactMiddleOf := ⟨Try.f5, _, Try.func5, rfl, by decide⟩
theorem e_laws_FnExactMiddleOf (env : Nat → Contract) (x0 : AV) (h : Heap) : denFn Try.prog env n_laws_FnExactMiddleOf [x0] h = obind2 (aBox (AV.cells x0) h) fun v1 h2 => obind (aLoad true 4 v1 h2) fun v3 => obind2 (aCall (env n_laws_toBox) [v3] h2) fun v4 h5 => obind2 (aCall (env n_spec_MiddleOf) [v4] h5) fun v6 h7 => obind (aExtract v6 0) fun v8 => obind (aExtract v6 1) fun v9 => obind2 (aBox [(iv 0), (iv 0)] h7) fun v10 h11 => obind (aStore 2 v10 v8 h11) fun h12 => obind (aLoad true 4 v1 h12) fun v13 => obind2 (aCall (env n_laws_toBox) [v13] h12) fun v14 h15 => obind2 (aCall (env n_impl_MiddleOf) [v14] h15) fun v16 h17 => obind (aExtract v16 0) fun v18 => obind (aExtract v16 1) fun v19 => obind2 (aBox [(iv 0), (iv 0)] h17) fun v20 h21 => obind (aStore 2 v20 v18 h21) fun h22 => obind (aLoad true 2 v20 h22) fun v23 => obind (aLoad true 2 v10 h22) fun v24 => obind2 (aCall (env n_laws_eqSpot) [v23, v24] h22) fun v25 h26 => obind (aUn .not v25) fun v27 => obind2 (guardB v27 false (obind (aCmp .neq .plain v19 v9) fun v28 => some (v28, h26)) (some (und, h26))) fun v29 h30 => obind (aPick v27 (bv true) v29) fun v31 => condB v31 (some ((bv false), h30)) (some ((bv true), h30)) := by kernel_rfl
theorem hb_spec_MiddleOf : HasBody Try.prog n_spec_MiddleOf := ⟨Try.f13, _, Try.func13, rfl, by decide⟩
theorem e_spec_MiddleOf (env : Nat → Contract) (x0 : AV) (h : Heap) : denFn Try.prog env n_spec_MiddleOf [x0] h = obind2 (aBox (AV.cells x0) h) fun v1 h2 => obind2 (aBox [(iv 0), (iv 0)] h2) fun v3 h4 => obind (aLoad true 4 v1 h4) fun v5 => obind2 (aCall (env n_spec_l02Box) [v5] h4) fun v6 h7 => obind (aUn .not v6) fun v8 => condB v8 (obind (aBuild [(iv 0), (iv 0)] []) fun v9 => obind (aStore 2 v3 v9 h7) fun h10 => retL [.c true 2 v3, .v (iv 1)] h10) (obind (aFieldAddr 0 v1) fun v11 => obind (aLoad false 1 v11 h7) fun v12 => obind (aFieldAddr 2 v1) fun v13 => obind (aLoad false 1 v13 h7) fun v14 => obind (aBin .add v12 v14) fun v15 => obind (aFieldAddr 1 v1) fun v16 => obind (aLoad false 1 v16 h7) fun v17 => obind (aFieldAddr 3 v1) fun v18 => obind (aLoad false 1 v18 h7) fun v19 => obind (aBin .add v17 v19) fun v20 => obind (aBuild [(iv 0), (iv 0)] [(0, 1, v15), (1, 1, v20)]) fun v21 => obind (aStore 2 v3 v21 h7) fun h22 => retL [.c true 2 v3, .v (iv 0)] h22) := by kernel_rfl
theorem hb_laws_toBox : HasBody Try.prog n_laws_toBox := ⟨Try.f14, _, Try.func14, rfl, by decide⟩
theorem e_laws_toBox (env : Nat → Contract) (x0 : AV) (h : Heap) : denFn Try.prog env n_laws_toBox [x0] h = obind2 (aBox (AV.cells x0) h) fun v1 h2 => obind2 (aBox [(iv 0), (iv 0), (iv 0), (iv 0)] h2) fun v3 h4 => obind2 (aBox [(iv 0), (iv 0), (iv 0), (iv 0)] h4) fun v5 h6 => obind (aFieldAddr 0 v1) fun v7 => obind (aLoad false 1 v7 h6) fun v8 => obind (aFieldAddr 0 v5) fun v9 => obind (aStore 1 v9 v8 h6) fun h10 => obind (aFieldAddr 1 v1) fun v11 => obind (aLoad false 1 v11 h10) fun v12 => obind (aFieldAddr 1 v5) fun v13 => obind (aStore 1 v13 v12 h10) fun h14 => obind (aFieldAddr 2 v1) fun v15 => obind (aLoad false 1 v15 h14) fun v16 => obind (aFieldAddr 2 v5) fun v17 => obind (aStore 1 v17 v16 h14) fun h18 => obind (aFieldAddr 3 v1) fun v19 => obind (aLoad false 1 v19 h18) fun v20 => obind (aFieldAddr 3 v5) fun v21 => obind (aStore 1 v21 v20 h18) fun h22 => obind (aLoad true 4 v5 h22) fun v23 => obind (aStore 4 v3 v23 h22) fun h24 => retL [.c true 4 v3] h24 := by kernel_rfl
theorem hb_impl_MiddleOf : HasBody Try.prog n_impl_MiddleOf := ⟨Try.f15, _, Try.func15, rfl, by decide⟩
theorem e_impl_MiddleOf (env : Nat → Contract) (x0 : AV) (h : Heap) : denFn Try.prog env n_impl_MiddleOf [x0] h = obind2 (aBox (AV.cells x0) h) fun v1 h2 => obind2 (aBox [(iv 0), (iv 0)] h2) fun v3 h4 => obind (aLoad true 4 v1 h4) fun v5 => obind2 (aCall (env n_impl_ValidBox) [v5] h4) fun v6 h7 => obind (aUn .not v6) fun v8 => condB v8 (obind (aBuild [(iv 0), (iv 0)] []) fun v9 => obind (aStore 2 v3 v9 h7) fun h10 => retL [.c true 2 v3, .v (iv 1)] h10) (obind (aFieldAddr 0 v1) fun v11 => obind (aLoad false 1 v11 h7) fun v12 => obind (aFieldAddr 2 v1) fun v13 => obind (aLoad false 1 v13 h7) fun v14 => obind (aBin .add v12 v14) fun v15 => obind (aFieldAddr 1 v1) fun v16 => obind (aLoad false 1 v16 h7) fun v17 => obind (aFieldAddr 3 v1) fun v18 => obind (aLoad false 1 v18 h7) fun v19 => obind (aBin .add v17 v19) fun v20 => obind (aBuild [(iv 0), (iv 0)] [(0, 1, v15), (1, 1, v20)]) fun v21 => obind (aStore 2 v3 v21 h7) fun h22 => retL [.c true 2 v3, .v (iv 0)] h22) := by kernel_rfl
theorem hb_laws_eqSpot : HasBody Try.prog n_laws_eqSpot := ⟨Try.f16, _, Try.func16, rfl, by decide⟩
theorem e_laws_eqSpot (env : Nat → Contract) (x0 x1 : AV) (h : Heap) : denFn Try.prog env n_laws_eqSpot [x0, x1] h = obind2 (aBox (AV.cells x0) h) fun v1 h2 => obind2 (aBox (AV.cells x1) h2) fun v3 h4 => obind (aFieldAddr 0 v1) fun v5 => obind (aLoad false 1 v5 h4) fun v6 => obind (aFieldAddr 0 v3) fun v7 => obind (aLoad false 1 v7 h4) fun v8 => obind (aCmp .neq .plain v6 v8) fun v9 => condB v9 (some ((bv false), h4)) (obind (aFieldAddr 1 v1) fun v10 => obind (aLoad false 1 v10 h4) fun v11 => obind (aFieldAddr 1 v3) fun v12 => obind (aLoad false 1 v12 h4) fun v13 => obind (aCmp .neq .plain v11 v13) fun v14 => condB v14 (some ((bv false), h4)) (some ((bv true), h4))) := by kernel_rfl
theorem hb_spec_l00In : HasBody Try.prog n_spec_l00In := ⟨Try.f24, _, Try.func24, rfl, by decide⟩
theorem e_spec_l00In (env : Nat → Contract) (x0 x1 x2 : AV) (h : Heap) : denFn Try.prog env n_spec_l00In [x0, x1, x2] h = obind (aBin .geq x0 x1) fun v1 => obind2 (guardB v1 true (obind (aBin .leq x0 x2) fun v2 => some (v2, h)) (some (und, h))) fun v3 h4 => obind (aPick v1 v3 (bv false)) fun v5 => some (v5, h4) := by kernel_rfl
theorem hb_impl_within : HasBody Try.prog n_impl_within := ⟨Try.f26, _, Try.func26, rfl, by decide⟩
theorem e_impl_within (env : Nat → Contract) (x0 x1 x2 : AV) (h : Heap) : denFn Try.prog env n_impl_within [x0, x1, x2] h = obind (aBin .geq x0 x1) fun v1 => obind2 (guardB v1 true (obind (aBin .leq x0 x2) fun v2 => some (v2, h)) (some (und, h))) fun v3 h4 => obind (aPick v1 v3 (bv false)) fun v5 => some (v5, h4) := by kernel_rfl
theorem hb_spec_l02Box : HasBody Try.prog n_spec_l02Box := ⟨Try.f29, _, Try.func29, rfl, by decide⟩
theorem e_spec_l02Box (env : Nat → Contract) (x0 : AV) (h : Heap) : denFn Try.prog env n_spec_l02Box [x0] h = obind2 (aBox (AV.cells x0) h) fun v1 h2 => obind (aFieldAddr 0 v1) fun v3 => obind (aLoad false 1 v3 h2) fun v4 => obind (aFieldAddr 2 v1) fun v5 => obind (aLoad false 1 v5 h2) fun v6 => obind2 (aCall (env n_spec_l00In) [v4, (iv 0), v6] h2) fun v7 h8 => obind2 (guardB v7 true (obind (aFieldAddr 1 v1) fun v9 => obind (aLoad false 1 v9 h8) fun v10 => obind (aFieldAddr 3 v1) fun v11 => obind (aLoad false 1 v11 h8) fun v12 => obind2 (aCall (env n_spec_l00In) [v10, (iv 0), v12] h8) fun v13 h14 => some (v13, h14)) (some (und, h8))) fun v15 h16 => obind (aPick v7 v15 (bv false)) fun v17 => obind2 (guardB v17 true (obind (aFieldAddr 2 v1) fun v18 => obind (aLoad false 1 v18 h16) fun v19 => obind (aBin .leq v19 (iv 4095)) fun v20 => some (v20, h16)) (some (und, h16))) fun v21 h22 => obind (aPick v17 v21 (bv false)) fun v23 => obind2 (guardB v23 true (obind (aFieldAddr 3 v1) fun v24 => obind (aLoad false 1 v24 h22) fun v25 => obind (aBin .leq v25 (iv 4095)) fun v26 => some (v26, h22)) (some (und, h22))) fun v27 h28 => obind (aPick v23 v27 (bv false)) fun v29 => some (v29, h28) := by kernel_rfl
theorem hb_impl_ValidBox : HasBody Try.prog n_impl_ValidBox := ⟨Try.f30, _, Try.func30, rfl, by decide⟩
theorem e_impl_ValidBox (env : Nat → Contract) (x0 : AV) (h : Heap) : denFn Try.prog env n_impl_ValidBox [x0] h = obind2 (aBox (AV.cells x0) h) fun v1 h2 => obind (aFieldAddr 0 v1) fun v3 => obind (aLoad false 1 v3 h2) fun v4 => obind (aFieldAddr 2 v1) fun v5 => obind (aLoad false 1 v5 h2) fun v6 => obind2 (aCall (env n_impl_within) [v4, (iv 0), v6] h2) fun v7 h8 => obind2 (guardB v7 true (obind (aFieldAddr 1 v1) fun v9 => obind (aLoad false 1 v9 h8) fun v10 => obind (aFieldAddr 3 v1) fun v11 => obind (aLoad false 1 v11 h8) fun v12 => obind2 (aCall (env n_impl_within) [v10, (iv 0), v12] h8) fun v13 h14 => some (v13, h14)) (some (und, h8))) fun v15 h16 => obind (aPick v7 v15 (bv false)) fun v17 => obind2 (guardB v17 true (obind (aFieldAddr 2 v1) fun v18 => obind (aLoad false 1 v18 h16) fun v19 => obind (aBin .leq v19 (iv 4095)) fun v20 => some (v20, h16)) (some (und, h16))) fun v21 h22 => obind (aPick v17 v21 (bv false)) fun v23 => obind2 (guardB v23 true (obind (aFieldAddr 3 v1) fun v24 => obind (aLoad false 1 v24 h22) fun v25 => obind (aBin .leq v25 (iv 4095)) fun v26 => some (v26, h22)) (some (und, h22))) fun v27 h28 => obind (aPick v23 v27 (bv false)) fun v29 => some (v29, h28) := by kernel_rfl
end Go.Proofs.Ytnimdpcfgfkdhaa
