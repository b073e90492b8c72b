/-
  The runs of the functions of this seat, in open form. Printed by a program of mine (gen.py).
-/
import Derived.Test.YtnimdpcfgfkdhaaProg
import Derived.Test.YtnimdpcfgfkdhaaEngTree
namespace Go.Proofs.Ytnimdpcfgfkdhaa
open Go Go.Eng

@[simp] abbrev n_laws_FnExactRelationName : Nat := 3
@[simp] abbrev n_laws_FnExactRelationNamed : Nat := 4
@[simp] abbrev n_laws_FnExactMiddleOf : Nat := 5
@[simp] abbrev n_laws_FnExactValidFraction : Nat := 6
@[simp] abbrev n_laws_FnExactCommonArea : Nat := 7
@[simp] abbrev n_laws_FnExactRelationOf : Nat := 8
@[simp] abbrev n_spec_RelationName : Nat := 9
@[simp] abbrev n_impl_RelationName : Nat := 10
@[simp] abbrev n_spec_RelationNamed : Nat := 11
@[simp] abbrev n_impl_RelationNamed : Nat := 12
@[simp] abbrev n_spec_MiddleOf : Nat := 13
@[simp] abbrev n_laws_toBox : Nat := 14
@[simp] abbrev n_impl_MiddleOf : Nat := 15
@[simp] abbrev n_laws_eqSpot : Nat := 16
@[simp] abbrev n_spec_ValidFraction : Nat := 17
@[simp] abbrev n_laws_toFraction : Nat := 18
@[simp] abbrev n_impl_ValidFraction : Nat := 19
@[simp] abbrev n_spec_CommonArea : Nat := 20
@[simp] abbrev n_impl_CommonArea : Nat := 21
@[simp] abbrev n_spec_RelationOf : Nat := 22
@[simp] abbrev n_impl_RelationOf : Nat := 23
@[simp] abbrev n_spec_l00In : Nat := 24
@[simp] abbrev n_spec_l20Names : Nat := 25
@[simp] abbrev n_impl_within : Nat := 26
@[simp] abbrev n_impl_relationNames : Nat := 27
@[simp] abbrev n_slices_Index_string_string : Nat := 28
@[simp] abbrev n_spec_l02Box : Nat := 29
@[simp] abbrev n_impl_ValidBox : Nat := 30
@[simp] abbrev n_spec_l22Ok : Nat := 31
@[simp] abbrev n_impl_gcd : Nat := 32
@[simp] abbrev n_spec_l00Min : Nat := 33
@[simp] abbrev n_spec_l00Max : Nat := 34
@[simp] abbrev n_spec_l20Relation : Nat := 35
@[simp] abbrev n_impl_relation : Nat := 36
@[simp] abbrev n_spec_l22Gcd : Nat := 37
@[simp] abbrev n_spec_l05Size : Nat := 38
@[simp] abbrev n_impl_abs : Nat := 39
theorem mixed : Try.prog.follows .mixedOrders = true := by kernel_rfl
theorem hb_laws_FnExactCommonArea : HasBody Try.prog n_laws_FnExactCommonArea := ⟨Try.f7, _, Try.func7, rfl, by decide⟩
theorem e_laws_FnExactCommonArea (env : Nat → Contract) (x0 x1 : AV) (h : Heap) : denFn Try.prog env n_laws_FnExactCommonArea [x0, x1] h = obind2 (aBox (AV.cells x0) h) fun v1 h2 => obind2 (aBox (AV.cells x1) h2) fun v3 h4 => obind (aLoad true 4 v1 h4) fun v5 => obind2 (aCallQ (env n_laws_toBox) [v5] h4) fun v6 h7 => obind (aLoad true 4 v3 h7) fun v8 => obind2 (aCallQ (env n_laws_toBox) [v8] h7) fun v9 h10 => obind2 (aCallQ (env n_spec_CommonArea) [v6, v9] h10) fun v11 h12 => obind (aExtract v11 0) fun v13 => obind (aExtract v11 1) fun v14 => obind (aLoad true 4 v1 h12) fun v15 => obind2 (aCallQ (env n_laws_toBox) [v15] h12) fun v16 h17 => obind (aLoad true 4 v3 h17) fun v18 => obind2 (aCallQ (env n_laws_toBox) [v18] h17) fun v19 h20 => obind2 (aCallQ (env n_impl_CommonArea) [v16, v19] h20) fun v21 h22 => obind (aExtract v21 0) fun v23 => obind (aExtract v21 1) fun v24 => obind (aCmp .neq .plain v23 v13) fun v25 => obind2 (guardB v25 false (obind (aCmp .neq .plain v24 v14) fun v26 => some (v26, h22)) (some (und, h22))) fun v27 h28 => obind (aPick v25 (bv true) v27) fun v29 => condB v29 (some ((bv false), h28)) (some ((bv true), h28)) := by kernel_rfl
theorem hb_laws_toBox : HasBody Try.prog n_laws_toBox := ⟨Try.f14, _, Try.func14, rfl, by decide⟩
theorem e_laws_toBox (env : Nat → Contract) (x0 : AV) (h : Heap) : denFn Try.prog env n_laws_toBox [x0] h = obind2 (aBox (AV.cells x0) h) fun v1 h2 => obind2 (aBox [(iv 0), (iv 0), (iv 0), (iv 0)] h2) fun v3 h4 => obind2 (aBox [(iv 0), (iv 0), (iv 0), (iv 0)] h4) fun v5 h6 => obind (aFieldAddr 0 v1) fun v7 => obind (aLoad false 1 v7 h6) fun v8 => obind (aFieldAddr 0 v5) fun v9 => obind (aStore 1 v9 v8 h6) fun h10 => obind (aFieldAddr 1 v1) fun v11 => obind (aLoad false 1 v11 h10) fun v12 => obind (aFieldAddr 1 v5) fun v13 => obind (aStore 1 v13 v12 h10) fun h14 => obind (aFieldAddr 2 v1) fun v15 => obind (aLoad false 1 v15 h14) fun v16 => obind (aFieldAddr 2 v5) fun v17 => obind (aStore 1 v17 v16 h14) fun h18 => obind (aFieldAddr 3 v1) fun v19 => obind (aLoad false 1 v19 h18) fun v20 => obind (aFieldAddr 3 v5) fun v21 => obind (aStore 1 v21 v20 h18) fun h22 => obind (aLoad true 4 v5 h22) fun v23 => obind (aStore 4 v3 v23 h22) fun h24 => retL [.c true 4 v3] h24 := by kernel_rfl
theorem hb_spec_CommonArea : HasBody Try.prog n_spec_CommonArea := ⟨Try.f20, _, Try.func20, rfl, by decide⟩
theorem e_spec_CommonArea (env : Nat → Contract) (x0 x1 : AV) (h : Heap) : denFn Try.prog env n_spec_CommonArea [x0, x1] h = obind2 (aBox (AV.cells x0) h) fun v1 h2 => obind2 (aBox (AV.cells x1) h2) fun v3 h4 => obind (aLoad true 4 v1 h4) fun v5 => obind2 (aCall (env n_spec_l02Box) [v5] h4) fun v6 h7 => obind (aUn .not v6) fun v8 => obind2 (guardB v8 false (obind (aLoad true 4 v3 h7) fun v9 => obind2 (aCall (env n_spec_l02Box) [v9] h7) fun v10 h11 => obind (aUn .not v10) fun v12 => some (v12, h11)) (some (und, h7))) fun v13 h14 => obind (aPick v8 (bv true) v13) fun v15 => condB v15 (some ((.tup [(iv 0), (iv 1)]), h14)) (obind (aFieldAddr 2 v1) fun v16 => obind (aLoad false 1 v16 h14) fun v17 => obind (aFieldAddr 2 v3) fun v18 => obind (aLoad false 1 v18 h14) fun v19 => obind2 (aCallQ (env n_spec_l00Min) [v17, v19] h14) fun v20 h21 => obind (aFieldAddr 0 v1) fun v22 => obind (aLoad false 1 v22 h21) fun v23 => obind (aFieldAddr 0 v3) fun v24 => obind (aLoad false 1 v24 h21) fun v25 => obind2 (aCallQ (env n_spec_l00Max) [v23, v25] h21) fun v26 h27 => obind (aBin .sub v20 v26) fun v28 => obind (aFieldAddr 3 v1) fun v29 => obind (aLoad false 1 v29 h27) fun v30 => obind (aFieldAddr 3 v3) fun v31 => obind (aLoad false 1 v31 h27) fun v32 => obind2 (aCallQ (env n_spec_l00Min) [v30, v32] h27) fun v33 h34 => obind (aFieldAddr 1 v1) fun v35 => obind (aLoad false 1 v35 h34) fun v36 => obind (aFieldAddr 1 v3) fun v37 => obind (aLoad false 1 v37 h34) fun v38 => obind2 (aCallQ (env n_spec_l00Max) [v36, v38] h34) fun v39 h40 => obind (aBin .sub v33 v39) fun v41 => obind2 (aCall (env n_spec_l00Max) [(iv 0), v28] h40) fun v42 h43 => obind2 (aCall (env n_spec_l00Max) [(iv 0), v41] h43) fun v44 h45 => obind (aBin .mul v42 v44) fun v46 => some ((.tup [v46, (iv 0)]), h45)) := by kernel_rfl
theorem hb_impl_CommonArea : HasBody Try.prog n_impl_CommonArea := ⟨Try.f21, _, Try.func21, rfl, by decide⟩
theorem e_impl_CommonArea (env : Nat → Contract) (x0 x1 : AV) (h : Heap) : denFn Try.prog env n_impl_CommonArea [x0, x1] h = obind2 (aBox (AV.cells x0) h) fun v1 h2 => obind2 (aBox (AV.cells x1) h2) fun v3 h4 => obind (aLoad true 4 v1 h4) fun v5 => obind2 (aCall (env n_impl_ValidBox) [v5] h4) fun v6 h7 => obind (aUn .not v6) fun v8 => obind2 (guardB v8 false (obind (aLoad true 4 v3 h7) fun v9 => obind2 (aCall (env n_impl_ValidBox) [v9] h7) fun v10 h11 => obind (aUn .not v10) fun v12 => some (v12, h11)) (some (und, h7))) fun v13 h14 => obind (aPick v8 (bv true) v13) fun v15 => condB v15 (some ((.tup [(iv 0), (iv 1)]), h14)) (obind (aFieldAddr 2 v1) fun v16 => obind (aLoad false 1 v16 h14) fun v17 => obind (aFieldAddr 2 v3) fun v18 => obind (aLoad false 1 v18 h14) fun v19 => obind (aFold aMin2 v17 [v19]) fun v20 => obind (aFieldAddr 0 v1) fun v21 => obind (aLoad false 1 v21 h14) fun v22 => obind (aFieldAddr 0 v3) fun v23 => obind (aLoad false 1 v23 h14) fun v24 => obind (aFold aMax2 v22 [v24]) fun v25 => obind (aBin .sub v20 v25) fun v26 => obind (aFieldAddr 3 v1) fun v27 => obind (aLoad false 1 v27 h14) fun v28 => obind (aFieldAddr 3 v3) fun v29 => obind (aLoad false 1 v29 h14) fun v30 => obind (aFold aMin2 v28 [v30]) fun v31 => obind (aFieldAddr 1 v1) fun v32 => obind (aLoad false 1 v32 h14) fun v33 => obind (aFieldAddr 1 v3) fun v34 => obind (aLoad false 1 v34 h14) fun v35 => obind (aFold aMax2 v33 [v35]) fun v36 => obind (aBin .sub v31 v36) fun v37 => obind (aFold aMax2 v26 [(iv 0)]) fun v38 => obind (aFold aMax2 v37 [(iv 0)]) fun v39 => obind (aBin .mul v38 v39) fun v40 => some ((.tup [v40, (iv 0)]), h14)) := by kernel_rfl
theorem hb_spec_l00In : HasBody Try.prog n_spec_l00In := ⟨Try.f24, _, Try.func24, rfl, by decide⟩
theorem e_spec_l00In (env : Nat → Contract) (x0 x1 x2 : AV) (h : Heap) : denFn Try.prog env n_spec_l00In [x0, x1, x2] h = obind (aBin .geq x0 x1) fun v1 => obind2 (guardB v1 true (obind (aBin .leq x0 x2) fun v2 => some (v2, h)) (some (und, h))) fun v3 h4 => obind (aPick v1 v3 (bv false)) fun v5 => some (v5, h4) := by kernel_rfl
theorem hb_impl_within : HasBody Try.prog n_impl_within := ⟨Try.f26, _, Try.func26, rfl, by decide⟩
theorem e_impl_within (env : Nat → Contract) (x0 x1 x2 : AV) (h : Heap) : denFn Try.prog env n_impl_within [x0, x1, x2] h = obind (aBin .geq x0 x1) fun v1 => obind2 (guardB v1 true (obind (aBin .leq x0 x2) fun v2 => some (v2, h)) (some (und, h))) fun v3 h4 => obind (aPick v1 v3 (bv false)) fun v5 => some (v5, h4) := by kernel_rfl
theorem hb_spec_l02Box : HasBody Try.prog n_spec_l02Box := ⟨Try.f29, _, Try.func29, rfl, by decide⟩
theorem e_spec_l02Box (env : Nat → Contract) (x0 : AV) (h : Heap) : denFn Try.prog env n_spec_l02Box [x0] h = obind2 (aBox (AV.cells x0) h) fun v1 h2 => obind (aFieldAddr 0 v1) fun v3 => obind (aLoad false 1 v3 h2) fun v4 => obind (aFieldAddr 2 v1) fun v5 => obind (aLoad false 1 v5 h2) fun v6 => obind2 (aCall (env n_spec_l00In) [v4, (iv 0), v6] h2) fun v7 h8 => obind2 (guardB v7 true (obind (aFieldAddr 1 v1) fun v9 => obind (aLoad false 1 v9 h8) fun v10 => obind (aFieldAddr 3 v1) fun v11 => obind (aLoad false 1 v11 h8) fun v12 => obind2 (aCall (env n_spec_l00In) [v10, (iv 0), v12] h8) fun v13 h14 => some (v13, h14)) (some (und, h8))) fun v15 h16 => obind (aPick v7 v15 (bv false)) fun v17 => obind2 (guardB v17 true (obind (aFieldAddr 2 v1) fun v18 => obind (aLoad false 1 v18 h16) fun v19 => obind (aBin .leq v19 (iv 4095)) fun v20 => some (v20, h16)) (some (und, h16))) fun v21 h22 => obind (aPick v17 v21 (bv false)) fun v23 => obind2 (guardB v23 true (obind (aFieldAddr 3 v1) fun v24 => obind (aLoad false 1 v24 h22) fun v25 => obind (aBin .leq v25 (iv 4095)) fun v26 => some (v26, h22)) (some (und, h22))) fun v27 h28 => obind (aPick v23 v27 (bv false)) fun v29 => some (v29, h28) := by kernel_rfl
theorem hb_impl_ValidBox : HasBody Try.prog n_impl_ValidBox := ⟨Try.f30, _, Try.func30, rfl, by decide⟩
theorem e_impl_ValidBox (env : Nat → Contract) (x0 : AV) (h : Heap) : denFn Try.prog env n_impl_ValidBox [x0] h = obind2 (aBox (AV.cells x0) h) fun v1 h2 => obind (aFieldAddr 0 v1) fun v3 => obind (aLoad false 1 v3 h2) fun v4 => obind (aFieldAddr 2 v1) fun v5 => obind (aLoad false 1 v5 h2) fun v6 => obind2 (aCall (env n_impl_within) [v4, (iv 0), v6] h2) fun v7 h8 => obind2 (guardB v7 true (obind (aFieldAddr 1 v1) fun v9 => obind (aLoad false 1 v9 h8) fun v10 => obind (aFieldAddr 3 v1) fun v11 => obind (aLoad false 1 v11 h8) fun v12 => obind2 (aCall (env n_impl_within) [v10, (iv 0), v12] h8) fun v13 h14 => some (v13, h14)) (some (und, h8))) fun v15 h16 => obind (aPick v7 v15 (bv false)) fun v17 => obind2 (guardB v17 true (obind (aFieldAddr 2 v1) fun v18 => obind (aLoad false 1 v18 h16) fun v19 => obind (aBin .leq v19 (iv 4095)) fun v20 => some (v20, h16)) (some (und, h16))) fun v21 h22 => obind (aPick v17 v21 (bv false)) fun v23 => obind2 (guardB v23 true (obind (aFieldAddr 3 v1) fun v24 => obind (aLoad false 1 v24 h22) fun v25 => obind (aBin .leq v25 (iv 4095)) fun v26 => some (v26, h22)) (some (und, h22))) fun v27 h28 => obind (aPick v23 v27 (bv false)) fun v29 => some (v29, h28) := by kernel_rfl
theorem hb_spec_l00Min : HasBody Try.prog n_spec_l00Min := ⟨Try.f33, _, Try.func33, rfl, by decide⟩
theorem e_spec_l00Min (env : Nat → Contract) (x0 x1 : AV) (h : Heap) : denFn Try.prog env n_spec_l00Min [x0, x1] h = obind (aBin .lss x0 x1) fun v1 => condB v1 (some (x0, h)) (some (x1, h)) := by kernel_rfl
theorem hb_spec_l00Max : HasBody Try.prog n_spec_l00Max := ⟨Try.f34, _, Try.func34, rfl, by decide⟩
theorem e_spec_l00Max (env : Nat → Contract) (x0 x1 : AV) (h : Heap) : denFn Try.prog env n_spec_l00Max [x0, x1] h = obind (aBin .gtr x0 x1) fun v1 => condB v1 (some (x0, h)) (some (x1, h)) := by kernel_rfl
end Go.Proofs.Ytnimdpcfgfkdhaa
