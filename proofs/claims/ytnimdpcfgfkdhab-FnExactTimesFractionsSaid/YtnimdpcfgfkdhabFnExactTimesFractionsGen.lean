/-
  The runs of the functions of this seat, in open form. Printed by a program of mine (gen.py).
-/
import Derived.Test.YtnimdpcfgfkdhabProg
import Derived.Test.YtnimdpcfgfkdhabEngTree
namespace Go.Proofs.Ytnimdpcfgfkdhab
open Go Go.Eng

@[simp] abbrev n_laws_FnExactSameLine : Nat := 3
@[simp] abbrev n_laws_FnExactMakeFraction : Nat := 4
@[simp] abbrev n_laws_FnExactAddFractions : Nat := 5
@[simp] abbrev n_laws_FnExactTimesFractions : Nat := 6
@[simp] abbrev n_laws_FnExactSameTree : Nat := 7
@[simp] abbrev n_laws_FnExactSameSymbols : Nat := 8
@[simp] abbrev n_laws_szLine : Nat := 9
@[simp] abbrev n_spec_SameLine : Nat := 10
@[simp] abbrev n_laws_toLine : Nat := 11
@[simp] abbrev n_impl_SameLine : Nat := 12
@[simp] abbrev n_laws_eqLine : Nat := 13
@[simp] abbrev n_spec_MakeFraction : Nat := 14
@[simp] abbrev n_impl_MakeFraction : Nat := 15
@[simp] abbrev n_laws_eqFraction : Nat := 16
@[simp] abbrev n_spec_AddFractions : Nat := 17
@[simp] abbrev n_laws_toFraction : Nat := 18
@[simp] abbrev n_impl_AddFractions : Nat := 19
@[simp] abbrev n_spec_TimesFractions : Nat := 20
@[simp] abbrev n_impl_TimesFractions : Nat := 21
@[simp] abbrev n_laws_szTree : Nat := 22
@[simp] abbrev n_spec_SameTree : Nat := 23
@[simp] abbrev n_laws_toTree : Nat := 24
@[simp] abbrev n_impl_SameTree : Nat := 25
@[simp] abbrev n_laws_eqTree : Nat := 26
@[simp] abbrev n_laws_szSymbolS : Nat := 27
@[simp] abbrev n_spec_SameSymbols : Nat := 28
@[simp] abbrev n_laws_toSymbolS : Nat := 29
@[simp] abbrev n_impl_SameSymbols : Nat := 30
@[simp] abbrev n_laws_eqSymbolS : Nat := 31
@[simp] abbrev n_laws_szInt64S : Nat := 32
@[simp] abbrev n_spec_l00Same : Nat := 33
@[simp] abbrev n_laws_toInt64S : Nat := 34
@[simp] abbrev n_slices_Equal_int64_int64 : Nat := 35
@[simp] abbrev n_laws_eqInt64S : Nat := 36
@[simp] abbrev n_spec_l00In : Nat := 37
@[simp] abbrev n_spec_l22Code : Nat := 38
@[simp] abbrev n_spec_l22Make : Nat := 39
@[simp] abbrev n_impl_within : Nat := 40
@[simp] abbrev n_impl_reduced : Nat := 41
@[simp] abbrev n_spec_l22Ok : Nat := 42
@[simp] abbrev n_impl_ValidFraction : Nat := 43
@[simp] abbrev n_laws_szTreeNodeS : Nat := 44
@[simp] abbrev n_laws_toTreeNodeS : Nat := 45
@[simp] abbrev n_slices_Equal_impl_TreeNode_impl_TreeNode : Nat := 46
@[simp] abbrev n_laws_eqTreeNodeS : Nat := 47
@[simp] abbrev n_laws_szSymbol : Nat := 48
@[simp] abbrev n_laws_toSymbol : Nat := 49
@[simp] abbrev n_slices_Equal_impl_Symbol_impl_Symbol : Nat := 50
@[simp] abbrev n_laws_eqSymbol : Nat := 51
@[simp] abbrev n_spec_l22Gcd : Nat := 52
@[simp] abbrev n_spec_l05Size : Nat := 53
@[simp] abbrev n_impl_gcd : Nat := 54
@[simp] abbrev n_laws_toTreeNode : Nat := 55
@[simp] abbrev n_laws_eqTreeNode : Nat := 56
@[simp] abbrev n_laws_toBox : Nat := 57
@[simp] abbrev n_laws_eqBox : Nat := 58
@[simp] abbrev n_impl_abs : Nat := 59
theorem mixed : Try.prog.follows .mixedOrders = true := by kernel_rfl
abbrev atrr (c : Code) : Code := (codeR (codeR c))
abbrev atrlll (c : Code) : Code := (codeL (codeL (codeL (codeR c))))
theorem hb_laws_FnExactTimesFractions : HasBody Try.prog n_laws_FnExactTimesFractions := ⟨Try.f6, _, Try.func6, rfl, by decide⟩
theorem e_laws_FnExactTimesFractions (env : Nat → Contract) (x0 x1 : AV) (h : Heap) : denFn Try.prog env n_laws_FnExactTimesFractions [x0, x1] h = obind2 (aBox (AV.cells x0) h) fun v1 h2 => obind2 (aBox (AV.cells x1) h2) fun v3 h4 => obind (aLoad true 2 v1 h4) fun v5 => obind2 (aCallQ (env n_laws_toFraction) [v5] h4) fun v6 h7 => obind (aLoad true 2 v3 h7) fun v8 => obind2 (aCallQ (env n_laws_toFraction) [v8] h7) fun v9 h10 => obind2 (aCallQ (env n_spec_TimesFractions) [v6, v9] h10) fun v11 h12 => obind (aExtract v11 0) fun v13 => obind (aExtract v11 1) fun v14 => obind2 (aBox [(iv 0), (iv 0)] h12) fun v15 h16 => obind (aStore 2 v15 v13 h16) fun h17 => obind (aLoad true 2 v1 h17) fun v18 => obind2 (aCallQ (env n_laws_toFraction) [v18] h17) fun v19 h20 => obind (aLoad true 2 v3 h20) fun v21 => obind2 (aCallQ (env n_laws_toFraction) [v21] h20) fun v22 h23 => obind2 (aCallQ (env n_impl_TimesFractions) [v19, v22] h23) fun v24 h25 => obind (aExtract v24 0) fun v26 => obind (aExtract v24 1) fun v27 => obind2 (aBox [(iv 0), (iv 0)] h25) fun v28 h29 => obind (aStore 2 v28 v26 h29) fun h30 => obind (aLoad true 2 v28 h30) fun v31 => obind (aLoad true 2 v15 h30) fun v32 => obind2 (aCall (env n_laws_eqFraction) [v31, v32] h30) fun v33 h34 => obind (aUn .not v33) fun v35 => obind2 (guardB v35 false (obind (aCmp .neq .plain v27 v14) fun v36 => some (v36, h34)) (some (und, h34))) fun v37 h38 => obind (aPick v35 (bv true) v37) fun v39 => condB v39 (some ((bv false), h38)) (some ((bv true), h38)) := by kernel_rfl
theorem hb_laws_eqFraction : HasBody Try.prog n_laws_eqFraction := ⟨Try.f16, _, Try.func16, rfl, by decide⟩
theorem e_laws_eqFraction (env : Nat → Contract) (x0 x1 : AV) (h : Heap) : denFn Try.prog env n_laws_eqFraction [x0, x1] h = obind2 (aBox (AV.cells x0) h) fun v1 h2 => obind2 (aBox (AV.cells x1) h2) fun v3 h4 => obind (aFieldAddr 0 v1) fun v5 => obind (aLoad false 1 v5 h4) fun v6 => obind (aFieldAddr 0 v3) fun v7 => obind (aLoad false 1 v7 h4) fun v8 => obind (aCmp .neq .plain v6 v8) fun v9 => condB v9 (some ((bv false), h4)) (obind (aFieldAddr 1 v1) fun v10 => obind (aLoad false 1 v10 h4) fun v11 => obind (aFieldAddr 1 v3) fun v12 => obind (aLoad false 1 v12 h4) fun v13 => obind (aCmp .neq .plain v11 v13) fun v14 => condB v14 (some ((bv false), h4)) (some ((bv true), h4))) := by kernel_rfl
theorem hb_laws_toFraction : HasBody Try.prog n_laws_toFraction := ⟨Try.f18, _, Try.func18, rfl, by decide⟩
theorem e_laws_toFraction (env : Nat → Contract) (x0 : AV) (h : Heap) : denFn Try.prog env n_laws_toFraction [x0] h = obind2 (aBox (AV.cells x0) h) fun v1 h2 => obind2 (aBox [(iv 0), (iv 0)] h2) fun v3 h4 => obind2 (aBox [(iv 0), (iv 0)] h4) fun v5 h6 => obind (aFieldAddr 0 v1) fun v7 => obind (aLoad false 1 v7 h6) fun v8 => obind (aFieldAddr 0 v5) fun v9 => obind (aStore 1 v9 v8 h6) fun h10 => obind (aFieldAddr 1 v1) fun v11 => obind (aLoad false 1 v11 h10) fun v12 => obind (aFieldAddr 1 v5) fun v13 => obind (aStore 1 v13 v12 h10) fun h14 => obind (aLoad true 2 v5 h14) fun v15 => obind (aStore 2 v3 v15 h14) fun h16 => retL [.c true 2 v3] h16 := by kernel_rfl
theorem hb_spec_TimesFractions : HasBody Try.prog n_spec_TimesFractions := ⟨Try.f20, _, Try.func20, rfl, by decide⟩
theorem e_spec_TimesFractions (env : Nat → Contract) (x0 x1 : AV) (h : Heap) : denFn Try.prog env n_spec_TimesFractions [x0, x1] h = obind2 (aBox (AV.cells x0) h) fun v1 h2 => obind2 (aBox (AV.cells x1) h2) fun v3 h4 => obind2 (aBox [(iv 0), (iv 0)] h4) fun v5 h6 => obind (aLoad true 2 v1 h6) fun v7 => obind2 (aCall (env n_spec_l22Ok) [v7] h6) fun v8 h9 => obind (aUn .not v8) fun v10 => obind2 (guardB v10 false (obind (aLoad true 2 v3 h9) fun v11 => obind2 (aCall (env n_spec_l22Ok) [v11] h9) fun v12 h13 => obind (aUn .not v12) fun v14 => some (v14, h13)) (some (und, h9))) fun v15 h16 => obind (aPick v10 (bv true) v15) fun v17 => condB v17 (obind (aBuild [(iv 0), (iv 0)] []) fun v18 => obind (aStore 2 v5 v18 h16) fun h19 => retL [.c true 2 v5, .v (iv 1)] h19) (obind (aFieldAddr 0 v1) fun v20 => obind (aLoad false 1 v20 h16) fun v21 => obind (aFieldAddr 0 v3) fun v22 => obind (aLoad false 1 v22 h16) fun v23 => obind (aBin .mul v21 v23) fun v24 => obind (aFieldAddr 1 v1) fun v25 => obind (aLoad false 1 v25 h16) fun v26 => obind (aFieldAddr 1 v3) fun v27 => obind (aLoad false 1 v27 h16) fun v28 => obind (aBin .mul v26 v28) fun v29 => obind2 (aCall (env n_spec_l22Make) [v24, v29] h16) fun v30 h31 => obind (aExtract v30 0) fun v32 => obind (aExtract v30 1) fun v33 => obind2 (aCall (env n_spec_l22Code) [v32, v33] h31) fun v34 h35 => obind (aExtract v34 0) fun v36 => obind (aExtract v34 1) fun v37 => obind (aStore 2 v5 v36 h35) fun h38 => retL [.c true 2 v5, .v v37] h38) := by kernel_rfl
theorem hb_impl_TimesFractions : HasBody Try.prog n_impl_TimesFractions := ⟨Try.f21, _, Try.func21, rfl, by decide⟩
theorem e_impl_TimesFractions (env : Nat → Contract) (x0 x1 : AV) (h : Heap) : denFn Try.prog env n_impl_TimesFractions [x0, x1] h = obind2 (aBox (AV.cells x0) h) fun v1 h2 => obind2 (aBox (AV.cells x1) h2) fun v3 h4 => obind2 (aBox [(iv 0), (iv 0)] h4) fun v5 h6 => obind (aLoad true 2 v1 h6) fun v7 => obind2 (aCall (env n_impl_ValidFraction) [v7] h6) fun v8 h9 => obind (aUn .not v8) fun v10 => obind2 (guardB v10 false (obind (aLoad true 2 v3 h9) fun v11 => obind2 (aCall (env n_impl_ValidFraction) [v11] h9) fun v12 h13 => obind (aUn .not v12) fun v14 => some (v14, h13)) (some (und, h9))) fun v15 h16 => obind (aPick v10 (bv true) v15) fun v17 => condB v17 (obind (aBuild [(iv 0), (iv 0)] []) fun v18 => obind (aStore 2 v5 v18 h16) fun h19 => retL [.c true 2 v5, .v (iv 1)] h19) (obind (aFieldAddr 0 v1) fun v20 => obind (aLoad false 1 v20 h16) fun v21 => obind (aFieldAddr 0 v3) fun v22 => obind (aLoad false 1 v22 h16) fun v23 => obind (aBin .mul v21 v23) fun v24 => obind (aFieldAddr 1 v1) fun v25 => obind (aLoad false 1 v25 h16) fun v26 => obind (aFieldAddr 1 v3) fun v27 => obind (aLoad false 1 v27 h16) fun v28 => obind (aBin .mul v26 v28) fun v29 => obind2 (aCall (env n_impl_reduced) [v24, v29] h16) fun v30 h31 => obind (aExtract v30 0) fun v32 => obind (aExtract v30 1) fun v33 => obind (aStore 2 v5 v32 h31) fun h34 => retL [.c true 2 v5, .v v33] h34) := by kernel_rfl
theorem hb_spec_l00In : HasBody Try.prog n_spec_l00In := ⟨Try.f37, _, Try.func37, rfl, by decide⟩
theorem e_spec_l00In (env : Nat → Contract) (x0 x1 x2 : AV) (h : Heap) : denFn Try.prog env n_spec_l00In [x0, x1, x2] h = obind (aBin .geq x0 x1) fun v1 => obind2 (guardB v1 true (obind (aBin .leq x0 x2) fun v2 => some (v2, h)) (some (und, h))) fun v3 h4 => obind (aPick v1 v3 (bv false)) fun v5 => some (v5, h4) := by kernel_rfl
theorem hb_spec_l22Code : HasBody Try.prog n_spec_l22Code := ⟨Try.f38, _, Try.func38, rfl, by decide⟩
theorem e_spec_l22Code (env : Nat → Contract) (x0 x1 : AV) (h : Heap) : denFn Try.prog env n_spec_l22Code [x0, x1] h = obind2 (aBox (AV.cells x0) h) fun v1 h2 => obind2 (aBox [(iv 0), (iv 0)] h2) fun v3 h4 => obind (aUn .not x1) fun v5 => condB v5 (obind (aBuild [(iv 0), (iv 0)] []) fun v6 => obind (aStore 2 v3 v6 h4) fun h7 => retL [.c true 2 v3, .v (iv 2)] h7) (obind (aLoad true 2 v1 h4) fun v8 => obind (aStore 2 v3 v8 h4) fun h9 => retL [.c true 2 v3, .v (iv 0)] h9) := by kernel_rfl
theorem hb_spec_l22Make : HasBody Try.prog n_spec_l22Make := ⟨Try.f39, _, Try.func39, rfl, by decide⟩
theorem e_spec_l22Make (env : Nat → Contract) (x0 x1 : AV) (h : Heap) : denFn Try.prog env n_spec_l22Make [x0, x1] h = obind2 (aBox [(iv 0), (iv 0)] h) fun v1 h2 => obind2 (aCall (env n_spec_l05Size) [x0] h2) fun v3 h4 => obind2 (aCall (env n_spec_l22Gcd) [v3, x1] h4) fun v5 h6 => obind (aBin .quo x0 v5) fun v7 => obind (aBin .quo x1 v5) fun v8 => obind (aBuild [(iv 0), (iv 0)] [(0, 1, v7), (1, 1, v8)]) fun v9 => obind2 (aBox [(iv 0), (iv 0)] h6) fun v10 h11 => obind (aStore 2 v10 v9 h11) fun h12 => obind (aLoad true 2 v10 h12) fun v13 => obind (aLoad true 2 v10 h12) fun v14 => obind2 (aCallQ (env n_spec_l22Ok) [v14] h12) fun v15 h16 => obind (aStore 2 v1 v13 h16) fun h17 => retL [.c true 2 v1, .v v15] h17 := by kernel_rfl
theorem hb_impl_within : HasBody Try.prog n_impl_within := ⟨Try.f40, _, Try.func40, rfl, by decide⟩
theorem e_impl_within (env : Nat → Contract) (x0 x1 x2 : AV) (h : Heap) : denFn Try.prog env n_impl_within [x0, x1, x2] h = obind (aBin .geq x0 x1) fun v1 => obind2 (guardB v1 true (obind (aBin .leq x0 x2) fun v2 => some (v2, h)) (some (und, h))) fun v3 h4 => obind (aPick v1 v3 (bv false)) fun v5 => some (v5, h4) := by kernel_rfl
theorem hb_impl_reduced : HasBody Try.prog n_impl_reduced := ⟨Try.f41, _, Try.func41, rfl, by decide⟩
theorem e_impl_reduced (env : Nat → Contract) (x0 x1 : AV) (h : Heap) : denFn Try.prog env n_impl_reduced [x0, x1] h = obind2 (aBox [(iv 0), (iv 0)] h) fun v1 h2 => obind2 (aCall (env n_impl_gcd) [x0, x1] h2) fun v3 h4 => obind (aBin .lss x1 (iv 0)) fun v5 => condB v5 (obind (aUn .neg v3) fun v6 => obind (aBin .quo x0 v6) fun v7 => obind (aBin .quo x1 v6) fun v8 => obind (aBuild [(iv 0), (iv 0)] [(0, 1, v7), (1, 1, v8)]) fun v9 => obind2 (aBox [(iv 0), (iv 0)] h4) fun v10 h11 => obind (aStore 2 v10 v9 h11) fun h12 => obind (aLoad true 2 v10 h12) fun v13 => obind2 (aCall (env n_impl_ValidFraction) [v13] h12) fun v14 h15 => obind (aUn .not v14) fun v16 => condB v16 (obind (aBuild [(iv 0), (iv 0)] []) fun v17 => obind (aStore 2 v1 v17 h15) fun h18 => retL [.c true 2 v1, .v (iv 2)] h18) (obind (aLoad true 2 v10 h15) fun v19 => obind (aStore 2 v1 v19 h15) fun h20 => retL [.c true 2 v1, .v (iv 0)] h20)) (obind (aBin .quo x0 v3) fun v21 => obind (aBin .quo x1 v3) fun v22 => obind (aBuild [(iv 0), (iv 0)] [(0, 1, v21), (1, 1, v22)]) fun v23 => obind2 (aBox [(iv 0), (iv 0)] h4) fun v24 h25 => obind (aStore 2 v24 v23 h25) fun h26 => obind (aLoad true 2 v24 h26) fun v27 => obind2 (aCall (env n_impl_ValidFraction) [v27] h26) fun v28 h29 => obind (aUn .not v28) fun v30 => condB v30 (obind (aBuild [(iv 0), (iv 0)] []) fun v31 => obind (aStore 2 v1 v31 h29) fun h32 => retL [.c true 2 v1, .v (iv 2)] h32) (obind (aLoad true 2 v24 h29) fun v33 => obind (aStore 2 v1 v33 h29) fun h34 => retL [.c true 2 v1, .v (iv 0)] h34)) := by kernel_rfl
theorem hb_spec_l22Ok : HasBody Try.prog n_spec_l22Ok := ⟨Try.f42, _, Try.func42, rfl, by decide⟩
theorem e_spec_l22Ok (env : Nat → Contract) (x0 : AV) (h : Heap) : denFn Try.prog env n_spec_l22Ok [x0] h = obind2 (aBox (AV.cells x0) h) fun v1 h2 => obind (aFieldAddr 1 v1) fun v3 => obind (aLoad false 1 v3 h2) fun v4 => obind2 (aCallQ (env n_spec_l00In) [v4, (iv 1), (iv 1000000000)] h2) fun v5 h6 => obind2 (guardB v5 true (obind (aFieldAddr 0 v1) fun v7 => some (v7, h6)) (some (und, h6))) fun v8 h9 => obind2 (guardB v5 true (obind (aLoad false 1 v8 h9) fun v10 => some (v10, h9)) (some (und, h9))) fun v11 h12 => obind2 (guardB v5 true (obind2 (aCallQ (env n_spec_l00In) [v11, (iv (-1000000000)), (iv 1000000000)] h12) fun v13 h14 => some (v13, h14)) (some (und, h12))) fun v15 h16 => obind (aPick v5 v15 (bv false)) fun v17 => obind2 (guardB v17 true (obind (aFieldAddr 0 v1) fun v18 => some (v18, h16)) (some (und, h16))) fun v19 h20 => obind2 (guardB v17 true (obind (aLoad false 1 v19 h20) fun v21 => some (v21, h20)) (some (und, h20))) fun v22 h23 => obind2 (guardB v17 true (obind2 (aCallQ (env n_spec_l05Size) [v22] h23) fun v24 h25 => some (v24, h25)) (some (und, h23))) fun v26 h27 => obind2 (guardB v17 true (obind (aFieldAddr 1 v1) fun v28 => some (v28, h27)) (some (und, h27))) fun v29 h30 => obind2 (guardB v17 true (obind (aLoad false 1 v29 h30) fun v31 => some (v31, h30)) (some (und, h30))) fun v32 h33 => obind2 (guardB v17 true (obind2 (aCallQ (env n_spec_l22Gcd) [v26, v32] h33) fun v34 h35 => some (v34, h35)) (some (und, h33))) fun v36 h37 => obind2 (guardB v17 true (obind (aCmp .eql .plain v36 (iv 1)) fun v38 => some (v38, h37)) (some (und, h37))) fun v39 h40 => obind (aPick v17 v39 (bv false)) fun v41 => some (v41, h40) := by kernel_rfl
theorem hb_impl_ValidFraction : HasBody Try.prog n_impl_ValidFraction := ⟨Try.f43, _, Try.func43, rfl, by decide⟩
theorem e_impl_ValidFraction (env : Nat → Contract) (x0 : AV) (h : Heap) : denFn Try.prog env n_impl_ValidFraction [x0] h = obind2 (aBox (AV.cells x0) h) fun v1 h2 => obind (aFieldAddr 0 v1) fun v3 => obind (aLoad false 1 v3 h2) fun v4 => obind2 (aCall (env n_impl_within) [v4, (iv (-1000000000)), (iv 1000000000)] h2) fun v5 h6 => obind2 (guardB v5 true (obind (aFieldAddr 1 v1) fun v7 => obind (aLoad false 1 v7 h6) fun v8 => obind2 (aCall (env n_impl_within) [v8, (iv 1), (iv 1000000000)] h6) fun v9 h10 => some (v9, h10)) (some (und, h6))) fun v11 h12 => obind (aPick v5 v11 (bv false)) fun v13 => obind2 (guardB v13 true (obind (aFieldAddr 0 v1) fun v14 => obind (aLoad false 1 v14 h12) fun v15 => obind (aFieldAddr 1 v1) fun v16 => obind (aLoad false 1 v16 h12) fun v17 => obind2 (aCall (env n_impl_gcd) [v15, v17] h12) fun v18 h19 => obind (aCmp .eql .plain v18 (iv 1)) fun v20 => some (v20, h19)) (some (und, h12))) fun v21 h22 => obind (aPick v13 v21 (bv false)) fun v23 => some (v23, h22) := by kernel_rfl
noncomputable abbrev c_spec_l22Gcd : Code := (Try.f52.body).getD .skip
noncomputable abbrev nm_spec_l22Gcd : List Bool := namedOf Try.f52
theorem hb_spec_l22Gcd : HasBody Try.prog n_spec_l22Gcd := ⟨Try.f52, _, Try.func52, rfl, by decide⟩
abbrev hm0_spec_l22Gcd : List Bool := [true, true, true, true, true, false, false, false, false, false, false, true]
abbrev xm0_spec_l22Gcd : List Bool := [true, true, true, true, true, false, false, false, false, false, false, true]
noncomputable def lb0_spec_l22Gcd (env : Nat → Contract) : TM → Heap → Option Res := fun tm h => denC Try.prog env nm_spec_l22Gcd (atrlll c_spec_l22Gcd) Res tm h fun e tm h => some (e, tm, h)
noncomputable def lk0_spec_l22Gcd (env : Nat → Contract) : AX → TM → Heap → Option (AV × Heap) := (kBlock 0 (kSeq Try.prog env nm_spec_l22Gcd (atrr c_spec_l22Gcd) _ (kRet Try.prog Try.f52.results.toList)))
theorem e_spec_l22Gcd (env : Nat → Contract) (x0 x1 : AV) (h : Heap) : denFn Try.prog env n_spec_l22Gcd [x0, x1] h = obind (loopP hm0_spec_l22Gcd xm0_spec_l22Gcd (lb0_spec_l22Gcd env) [x0, x1, und, und, (iv 0), .top, .top, .top, .top, .top, .top, und] h) fun r => lk0_spec_l22Gcd env r.1 r.2.1 r.2.2 := by kernel_rfl
theorem e_lb0_spec_l22Gcd (env : Nat → Contract) (y0 y1 y2 y3 y4 y11 : AV) (h : Heap) : lb0_spec_l22Gcd env [y0, y1, y2, y3, y4, .top, .top, .top, .top, .top, .top, y11] h = obind (aCmp .neq .plain y1 (iv 0)) fun v1 => condB v1 (obind (aBin .rem y0 y1) fun v2 => some (.normal, [y1, v2, y2, y3, y4, y1, v1, y1, y0, y1, v2, y11], h)) (some (.exit 0, [y0, y1, y2, y3, y4, y1, v1, .top, .top, .top, .top, y11], h)) := by kernel_rfl
theorem e_lk0x0_spec_l22Gcd (env : Nat → Contract) (z0 z1 z2 z3 z4 z11 : AV) (h : Heap) : lk0_spec_l22Gcd env (.exit 0) [z0, z1, z2, z3, z4, .top, .top, .top, .top, .top, .top, z11] h = some (z0, h) := by kernel_rfl
theorem hb_spec_l05Size : HasBody Try.prog n_spec_l05Size := ⟨Try.f53, _, Try.func53, rfl, by decide⟩
theorem e_spec_l05Size (env : Nat → Contract) (x0 : AV) (h : Heap) : denFn Try.prog env n_spec_l05Size [x0] h = obind (aBin .lss x0 (iv 0)) fun v1 => condB v1 (obind (aUn .neg x0) fun v2 => some (v2, h)) (some (x0, h)) := by kernel_rfl
noncomputable abbrev c_impl_gcd : Code := (Try.f54.body).getD .skip
noncomputable abbrev nm_impl_gcd : List Bool := namedOf Try.f54
theorem hb_impl_gcd : HasBody Try.prog n_impl_gcd := ⟨Try.f54, _, Try.func54, rfl, by decide⟩
abbrev hm0_impl_gcd : List Bool := [true, true, true, true, true, false, false, false, false, false, false, true, true]
abbrev xm0_impl_gcd : List Bool := [true, true, true, true, true, false, false, false, false, false, false, true, true]
noncomputable def lb0_impl_gcd (env : Nat → Contract) : TM → Heap → Option Res := fun tm h => denC Try.prog env nm_impl_gcd (atrlll c_impl_gcd) Res tm h fun e tm h => some (e, tm, h)
noncomputable def lk0_impl_gcd (env : Nat → Contract) : AX → TM → Heap → Option (AV × Heap) := (kBlock 0 (kSeq Try.prog env nm_impl_gcd (atrr c_impl_gcd) _ (kRet Try.prog Try.f54.results.toList)))
theorem e_impl_gcd (env : Nat → Contract) (x0 x1 : AV) (h : Heap) : denFn Try.prog env n_impl_gcd [x0, x1] h = obind (loopP hm0_impl_gcd xm0_impl_gcd (lb0_impl_gcd env) [x0, x1, und, und, (iv 0), .top, .top, .top, .top, .top, .top, und, und] h) fun r => lk0_impl_gcd env r.1 r.2.1 r.2.2 := by kernel_rfl
theorem e_lb0_impl_gcd (env : Nat → Contract) (y0 y1 y2 y3 y4 y11 y12 : AV) (h : Heap) : lb0_impl_gcd env [y0, y1, y2, y3, y4, .top, .top, .top, .top, .top, .top, y11, y12] h = obind (aCmp .neq .plain y1 (iv 0)) fun v1 => condB v1 (obind (aBin .rem y0 y1) fun v2 => some (.normal, [y1, v2, y2, y3, y4, y1, v1, y1, y0, y1, v2, y11, y12], h)) (some (.exit 0, [y0, y1, y2, y3, y4, y1, v1, .top, .top, .top, .top, y11, y12], h)) := by kernel_rfl
theorem e_lk0x0_impl_gcd (env : Nat → Contract) (z0 z1 z2 z3 z4 z11 z12 : AV) (h : Heap) : lk0_impl_gcd env (.exit 0) [z0, z1, z2, z3, z4, .top, .top, .top, .top, .top, .top, z11, z12] h = obind2 (aCall (env n_impl_abs) [z0] h) fun v3 h4 => some (v3, h4) := by kernel_rfl
theorem hb_impl_abs : HasBody Try.prog n_impl_abs := ⟨Try.f59, _, Try.func59, rfl, by decide⟩
theorem e_impl_abs (env : Nat → Contract) (x0 : AV) (h : Heap) : denFn Try.prog env n_impl_abs [x0] h = obind (aBin .lss x0 (iv 0)) fun v1 => condB v1 (obind (aUn .neg x0) fun v2 => some (v2, h)) (some (x0, h)) := by kernel_rfl
end Go.Proofs.Ytnimdpcfgfkdhab
