/-
  The runs of the functions of this seat, in open form. Printed by a program of mine (gen.py).
-/
import Derived.Test.YtfladjnggkeiaaaProg
import Derived.Test.YtfladjnggkeiaaaEngTxt
namespace Go.Proofs.Ytfladjnggkeiaaa
open Go Go.Eng

@[simp] abbrev n_laws_FnExactSameModel : Nat := 3
@[simp] abbrev n_laws_FnExactTokensOf : Nat := 4
@[simp] abbrev n_laws_FnExactRootFraction : Nat := 5
@[simp] abbrev n_laws_FnExactLineOfPoint : Nat := 6
@[simp] abbrev n_laws_FnExactPowerFraction : Nat := 7
@[simp] abbrev n_laws_FnExactBoxOfItems : Nat := 8
@[simp] abbrev n_laws_szModel : Nat := 9
@[simp] abbrev n_spec_SameModel : Nat := 10
@[simp] abbrev n_laws_toModel : Nat := 11
@[simp] abbrev n_impl_SameModel : Nat := 12
@[simp] abbrev n_laws_eqModel : Nat := 13
@[simp] abbrev n_spec_TokensOf : Nat := 14
@[simp] abbrev n_impl_TokensOf : Nat := 15
@[simp] abbrev n_laws_eqStringS : Nat := 16
@[simp] abbrev n_laws_markStringS : Nat := 17
@[simp] abbrev n_laws_heldStringS : Nat := 18
@[simp] abbrev n_spec_RootFraction : Nat := 19
@[simp] abbrev n_laws_toFraction : Nat := 20
@[simp] abbrev n_impl_RootFraction : Nat := 21
@[simp] abbrev n_laws_eqFraction : Nat := 22
@[simp] abbrev n_laws_szLineS : Nat := 23
@[simp] abbrev n_spec_LineOfPoint : Nat := 24
@[simp] abbrev n_laws_toLineS : Nat := 25
@[simp] abbrev n_impl_LineOfPoint : Nat := 26
@[simp] abbrev n_laws_eqLineS : Nat := 27
@[simp] abbrev n_spec_PowerFraction : Nat := 28
@[simp] abbrev n_impl_PowerFraction : Nat := 29
@[simp] abbrev n_laws_szBoxS : Nat := 30
@[simp] abbrev n_spec_BoxOfItems : Nat := 31
@[simp] abbrev n_laws_toBoxS : Nat := 32
@[simp] abbrev n_laws_toInt64S : Nat := 33
@[simp] abbrev n_impl_BoxOfItems : Nat := 34
@[simp] abbrev n_laws_eqBox : Nat := 35
@[simp] abbrev n_laws_eqBoxS : Nat := 36
@[simp] abbrev n_laws_eqInt64S : Nat := 37
@[simp] abbrev n_laws_szBigramS : Nat := 38
@[simp] abbrev n_spec_l18Same : Nat := 39
@[simp] abbrev n_laws_toBigramS : Nat := 40
@[simp] abbrev n_slices_Equal_impl_Bigram_impl_Bigram : Nat := 41
@[simp] abbrev n_laws_eqBigramS : Nat := 42
@[simp] abbrev n_spec_l22Tokens : Nat := 43
@[simp] abbrev n_impl_isDigit : Nat := 44
@[simp] abbrev n_impl_isLetter : Nat := 45
@[simp] abbrev n_strings_IndexByte : Nat := 46
@[simp] abbrev n_laws_markText : Nat := 47
@[simp] abbrev n_spec_l22Ok : Nat := 48
@[simp] abbrev n_spec_l05Root : Nat := 49
@[simp] abbrev n_impl_ValidFraction : Nat := 50
@[simp] abbrev n_impl_rootOf : Nat := 51
@[simp] abbrev n_laws_szLine : Nat := 52
@[simp] abbrev n_spec_l00In : Nat := 53
@[simp] abbrev n_spec_l19Away : Nat := 54
@[simp] abbrev n_laws_toLine : Nat := 55
@[simp] abbrev n_impl_within : Nat := 56
@[simp] abbrev n_impl_isCoord : Nat := 57
@[simp] abbrev n_impl_beyond : Nat := 58
@[simp] abbrev n_laws_eqLine : Nat := 59
@[simp] abbrev n_spec_l22Turn : Nat := 60
@[simp] abbrev n_spec_TimesFractions : Nat := 61
@[simp] abbrev n_impl_reciprocal : Nat := 62
@[simp] abbrev n_impl_TimesFractions : Nat := 63
@[simp] abbrev n_spec_l19Boxes : Nat := 64
@[simp] abbrev n_spec_l02Join : Nat := 65
@[simp] abbrev n_laws_toBox : Nat := 66
@[simp] abbrev n_impl_isPage : Nat := 67
@[simp] abbrev n_impl_areIndices : Nat := 68
@[simp] abbrev n_impl_joinBoxes : Nat := 69
@[simp] abbrev n_laws_szBigram : Nat := 70
@[simp] abbrev n_laws_toBigram : Nat := 71
@[simp] abbrev n_laws_eqBigram : Nat := 72
@[simp] abbrev n_spec_l01Digit : Nat := 73
@[simp] abbrev n_spec_l22Sign : Nat := 74
@[simp] abbrev n_internal_stringslite_IndexByte : Nat := 75
@[simp] abbrev n_spec_l22Gcd : Nat := 76
@[simp] abbrev n_spec_l05Size : Nat := 77
@[simp] abbrev n_impl_gcd : Nat := 78
@[simp] abbrev n_math_bits_Len64 : Nat := 79
@[simp] abbrev n_laws_szInt64S : Nat := 80
@[simp] abbrev n_spec_l00Max : Nat := 81
@[simp] abbrev n_spec_l22Code : Nat := 82
@[simp] abbrev n_spec_l22Make : Nat := 83
@[simp] abbrev n_impl_reduced : Nat := 84
@[simp] abbrev n_spec_l02Box : Nat := 85
@[simp] abbrev n_spec_l00Min : Nat := 86
@[simp] abbrev n_slices_ContainsFunc_impl_Box_impl_Box : Nat := 87
@[simp] abbrev n_impl_isPage_1 : Nat := 88
@[simp] abbrev n_impl_ValidBox : Nat := 89
@[simp] abbrev n_slices_ContainsFunc_int64_int64 : Nat := 90
@[simp] abbrev n_impl_areIndices_1 : Nat := 91
@[simp] abbrev n_spec_l01Small : Nat := 92
@[simp] abbrev n_internal_bytealg_IndexByteString : Nat := 93
@[simp] abbrev n_impl_abs : Nat := 94
@[simp] abbrev n_slices_IndexFunc_impl_Box_impl_Box : Nat := 95
@[simp] abbrev n_slices_IndexFunc_int64_int64 : Nat := 96
theorem mixed : Try.prog.follows .mixedOrders = true := by kernel_rfl
abbrev atrr (c : Code) : Code := (codeR (codeR c))
abbrev atrlll (c : Code) : Code := (codeL (codeL (codeL (codeR c))))
abbrev atrrrr (c : Code) : Code := (codeR (codeR (codeR (codeR c))))
abbrev atrrrlll (c : Code) : Code := (codeL (codeL (codeL (codeR (codeR (codeR c))))))
abbrev atrrrlrll (c : Code) : Code := (codeL (codeL (codeR (codeL (codeR (codeR (codeR c)))))))
theorem hb_laws_FnExactRootFraction : HasBody Try.prog n_laws_FnExactRootFraction := ⟨Try.f5, _, Try.func5, rfl, by decide⟩
theorem e_laws_FnExactRootFraction (env : Nat → Contract) (x0 : AV) (h : Heap) : denFn Try.prog env n_laws_FnExactRootFraction [x0] h = obind2 (aBox (AV.cells x0) h) fun v1 h2 => obind (aLoad true 2 v1 h2) fun v3 => obind2 (aCall (env n_laws_toFraction) [v3] h2) fun v4 h5 => obind2 (aCall (env n_spec_RootFraction) [v4] h5) fun v6 h7 => obind (aExtract v6 0) fun v8 => obind (aExtract v6 1) fun v9 => obind2 (aBox [(iv 0), (iv 0)] h7) fun v10 h11 => obind (aStore 2 v10 v8 h11) fun h12 => obind (aLoad true 2 v1 h12) fun v13 => obind2 (aCall (env n_laws_toFraction) [v13] h12) fun v14 h15 => obind2 (aCall (env n_impl_RootFraction) [v14] h15) fun v16 h17 => obind (aExtract v16 0) fun v18 => obind (aExtract v16 1) fun v19 => obind2 (aBox [(iv 0), (iv 0)] h17) fun v20 h21 => obind (aStore 2 v20 v18 h21) fun h22 => obind (aLoad true 2 v20 h22) fun v23 => obind (aLoad true 2 v10 h22) fun v24 => obind2 (aCall (env n_laws_eqFraction) [v23, v24] h22) fun v25 h26 => obind (aUn .not v25) fun v27 => obind2 (guardB v27 false (obind (aCmp .neq .plain v19 v9) fun v28 => some (v28, h26)) (some (und, h26))) fun v29 h30 => obind (aPick v27 (bv true) v29) fun v31 => condB v31 (some ((bv false), h30)) (some ((bv true), h30)) := by kernel_rfl
theorem hb_spec_RootFraction : HasBody Try.prog n_spec_RootFraction := ⟨Try.f19, _, Try.func19, rfl, by decide⟩
theorem e_spec_RootFraction (env : Nat → Contract) (x0 : AV) (h : Heap) : denFn Try.prog env n_spec_RootFraction [x0] h = obind2 (aBox (AV.cells x0) h) fun v1 h2 => obind2 (aBox [(iv 0), (iv 0)] h2) fun v3 h4 => obind (aLoad true 2 v1 h4) fun v5 => obind2 (aCall (env n_spec_l22Ok) [v5] h4) fun v6 h7 => obind (aUn .not v6) fun v8 => condB v8 (obind (aBuild [(iv 0), (iv 0)] []) fun v9 => obind (aStore 2 v3 v9 h7) fun h10 => retL [.c true 2 v3, .v (iv 1)] h10) (obind (aFieldAddr 0 v1) fun v11 => obind (aLoad false 1 v11 h7) fun v12 => obind (aBin .lss v12 (iv 0)) fun v13 => condB v13 (obind (aBuild [(iv 0), (iv 0)] []) fun v14 => obind (aStore 2 v3 v14 h7) fun h15 => retL [.c true 2 v3, .v (iv 6)] h15) (obind (aFieldAddr 0 v1) fun v16 => obind (aLoad false 1 v16 h7) fun v17 => obind2 (aCall (env n_spec_l05Root) [v17] h7) fun v18 h19 => obind (aFieldAddr 1 v1) fun v20 => obind (aLoad false 1 v20 h19) fun v21 => obind2 (aCall (env n_spec_l05Root) [v21] h19) fun v22 h23 => obind (aBin .mul v18 v18) fun v24 => obind (aFieldAddr 0 v1) fun v25 => obind (aLoad false 1 v25 h23) fun v26 => obind (aCmp .neq .plain v24 v26) fun v27 => obind2 (guardB v27 false (obind (aBin .mul v22 v22) fun v28 => obind (aFieldAddr 1 v1) fun v29 => obind (aLoad false 1 v29 h23) fun v30 => obind (aCmp .neq .plain v28 v30) fun v31 => some (v31, h23)) (some (und, h23))) fun v32 h33 => obind (aPick v27 (bv true) v32) fun v34 => condB v34 (obind (aBuild [(iv 0), (iv 0)] []) fun v35 => obind (aStore 2 v3 v35 h33) fun h36 => retL [.c true 2 v3, .v (iv 6)] h36) (obind (aBuild [(iv 0), (iv 0)] [(0, 1, v18), (1, 1, v22)]) fun v37 => obind (aStore 2 v3 v37 h33) fun h38 => retL [.c true 2 v3, .v (iv 0)] h38))) := by kernel_rfl
theorem hb_laws_toFraction : HasBody Try.prog n_laws_toFraction := ⟨Try.f20, _, Try.func20, rfl, by decide⟩
theorem e_laws_toFraction (env : Nat → Contract) (x0 : AV) (h : Heap) : denFn Try.prog env n_laws_toFraction [x0] h = obind2 (aBox (AV.cells x0) h) fun v1 h2 => obind2 (aBox [(iv 0), (iv 0)] h2) fun v3 h4 => obind2 (aBox [(iv 0), (iv 0)] h4) fun v5 h6 => obind (aFieldAddr 0 v1) fun v7 => obind (aLoad false 1 v7 h6) fun v8 => obind (aFieldAddr 0 v5) fun v9 => obind (aStore 1 v9 v8 h6) fun h10 => obind (aFieldAddr 1 v1) fun v11 => obind (aLoad false 1 v11 h10) fun v12 => obind (aFieldAddr 1 v5) fun v13 => obind (aStore 1 v13 v12 h10) fun h14 => obind (aLoad true 2 v5 h14) fun v15 => obind (aStore 2 v3 v15 h14) fun h16 => retL [.c true 2 v3] h16 := by kernel_rfl
theorem hb_impl_RootFraction : HasBody Try.prog n_impl_RootFraction := ⟨Try.f21, _, Try.func21, rfl, by decide⟩
theorem e_impl_RootFraction (env : Nat → Contract) (x0 : AV) (h : Heap) : denFn Try.prog env n_impl_RootFraction [x0] h = obind2 (aBox (AV.cells x0) h) fun v1 h2 => obind2 (aBox [(iv 0), (iv 0)] h2) fun v3 h4 => obind (aLoad true 2 v1 h4) fun v5 => obind2 (aCall (env n_impl_ValidFraction) [v5] h4) fun v6 h7 => obind (aUn .not v6) fun v8 => condB v8 (obind (aBuild [(iv 0), (iv 0)] []) fun v9 => obind (aStore 2 v3 v9 h7) fun h10 => retL [.c true 2 v3, .v (iv 1)] h10) (obind (aFieldAddr 0 v1) fun v11 => obind (aLoad false 1 v11 h7) fun v12 => obind (aBin .lss v12 (iv 0)) fun v13 => condB v13 (obind (aBuild [(iv 0), (iv 0)] []) fun v14 => obind (aStore 2 v3 v14 h7) fun h15 => retL [.c true 2 v3, .v (iv 6)] h15) (obind (aFieldAddr 0 v1) fun v16 => obind (aLoad false 1 v16 h7) fun v17 => obind2 (aCallQ (env n_impl_rootOf) [v17] h7) fun v18 h19 => obind (aFieldAddr 1 v1) fun v20 => obind (aLoad false 1 v20 h19) fun v21 => obind2 (aCallQ (env n_impl_rootOf) [v21] h19) fun v22 h23 => obind (aBuild [(iv 0), (iv 0)] [(0, 1, v18), (1, 1, v22)]) fun v24 => obind2 (aBox [(iv 0), (iv 0)] h23) fun v25 h26 => obind (aStore 2 v25 v24 h26) fun h27 => obind (aFieldAddr 0 v25) fun v28 => obind (aLoad false 1 v28 h27) fun v29 => obind (aFieldAddr 0 v25) fun v30 => obind (aLoad false 1 v30 h27) fun v31 => obind (aBin .mul v29 v31) fun v32 => obind (aFieldAddr 0 v1) fun v33 => obind (aLoad false 1 v33 h27) fun v34 => obind (aCmp .neq .plain v32 v34) fun v35 => obind2 (guardB v35 false (obind (aFieldAddr 1 v25) fun v36 => obind (aLoad false 1 v36 h27) fun v37 => obind (aFieldAddr 1 v25) fun v38 => obind (aLoad false 1 v38 h27) fun v39 => obind (aBin .mul v37 v39) fun v40 => obind (aFieldAddr 1 v1) fun v41 => obind (aLoad false 1 v41 h27) fun v42 => obind (aCmp .neq .plain v40 v42) fun v43 => some (v43, h27)) (some (und, h27))) fun v44 h45 => obind (aPick v35 (bv true) v44) fun v46 => condB v46 (obind (aBuild [(iv 0), (iv 0)] []) fun v47 => obind (aStore 2 v3 v47 h45) fun h48 => retL [.c true 2 v3, .v (iv 6)] h48) (obind (aLoad true 2 v25 h45) fun v49 => obind (aStore 2 v3 v49 h45) fun h50 => retL [.c true 2 v3, .v (iv 0)] h50))) := by kernel_rfl
theorem hb_laws_eqFraction : HasBody Try.prog n_laws_eqFraction := ⟨Try.f22, _, Try.func22, rfl, by decide⟩
theorem e_laws_eqFraction (env : Nat → Contract) (x0 x1 : AV) (h : Heap) : denFn Try.prog env n_laws_eqFraction [x0, x1] h = obind2 (aBox (AV.cells x0) h) fun v1 h2 => obind2 (aBox (AV.cells x1) h2) fun v3 h4 => obind (aFieldAddr 0 v1) fun v5 => obind (aLoad false 1 v5 h4) fun v6 => obind (aFieldAddr 0 v3) fun v7 => obind (aLoad false 1 v7 h4) fun v8 => obind (aCmp .neq .plain v6 v8) fun v9 => condB v9 (some ((bv false), h4)) (obind (aFieldAddr 1 v1) fun v10 => obind (aLoad false 1 v10 h4) fun v11 => obind (aFieldAddr 1 v3) fun v12 => obind (aLoad false 1 v12 h4) fun v13 => obind (aCmp .neq .plain v11 v13) fun v14 => condB v14 (some ((bv false), h4)) (some ((bv true), h4))) := by kernel_rfl
theorem hb_spec_l22Ok : HasBody Try.prog n_spec_l22Ok := ⟨Try.f48, _, Try.func48, rfl, by decide⟩
theorem e_spec_l22Ok (env : Nat → Contract) (x0 : AV) (h : Heap) : denFn Try.prog env n_spec_l22Ok [x0] h = obind2 (aBox (AV.cells x0) h) fun v1 h2 => obind (aFieldAddr 1 v1) fun v3 => obind (aLoad false 1 v3 h2) fun v4 => obind2 (aCallQ (env n_spec_l00In) [v4, (iv 1), (iv 1000000000)] h2) fun v5 h6 => obind2 (guardB v5 true (obind (aFieldAddr 0 v1) fun v7 => some (v7, h6)) (some (und, h6))) fun v8 h9 => obind2 (guardB v5 true (obind (aLoad false 1 v8 h9) fun v10 => some (v10, h9)) (some (und, h9))) fun v11 h12 => obind2 (guardB v5 true (obind2 (aCallQ (env n_spec_l00In) [v11, (iv (-1000000000)), (iv 1000000000)] h12) fun v13 h14 => some (v13, h14)) (some (und, h12))) fun v15 h16 => obind (aPick v5 v15 (bv false)) fun v17 => obind2 (guardB v17 true (obind (aFieldAddr 0 v1) fun v18 => some (v18, h16)) (some (und, h16))) fun v19 h20 => obind2 (guardB v17 true (obind (aLoad false 1 v19 h20) fun v21 => some (v21, h20)) (some (und, h20))) fun v22 h23 => obind2 (guardB v17 true (obind2 (aCallQ (env n_spec_l05Size) [v22] h23) fun v24 h25 => some (v24, h25)) (some (und, h23))) fun v26 h27 => obind2 (guardB v17 true (obind (aFieldAddr 1 v1) fun v28 => some (v28, h27)) (some (und, h27))) fun v29 h30 => obind2 (guardB v17 true (obind (aLoad false 1 v29 h30) fun v31 => some (v31, h30)) (some (und, h30))) fun v32 h33 => obind2 (guardB v17 true (obind2 (aCallQ (env n_spec_l22Gcd) [v26, v32] h33) fun v34 h35 => some (v34, h35)) (some (und, h33))) fun v36 h37 => obind2 (guardB v17 true (obind (aCmp .eql .plain v36 (iv 1)) fun v38 => some (v38, h37)) (some (und, h37))) fun v39 h40 => obind (aPick v17 v39 (bv false)) fun v41 => some (v41, h40) := by kernel_rfl
noncomputable abbrev c_spec_l05Root : Code := (Try.f49.body).getD .skip
noncomputable abbrev nm_spec_l05Root : List Bool := namedOf Try.f49
theorem hb_spec_l05Root : HasBody Try.prog n_spec_l05Root := ⟨Try.f49, _, Try.func49, rfl, by decide⟩
abbrev hm0_spec_l05Root : List Bool := [true, true, true, true, true, false, false, false, false, false, false, false, false, false, false, false, false, false, false, false, false, false, true]
abbrev xm0_spec_l05Root : List Bool := [true, true, true, true, true, true, false, false, false, false, false, false, false, false, false, false, false, false, false, false, false, false, true]
noncomputable def lb0_spec_l05Root (env : Nat → Contract) : TM → Heap → Option Res := fun tm h => denC Try.prog env nm_spec_l05Root (atrrrlll c_spec_l05Root) Res tm h fun e tm h => some (e, tm, h)
noncomputable def lk0_spec_l05Root (env : Nat → Contract) : AX → TM → Heap → Option (AV × Heap) := (kBlock 0 (kSeq Try.prog env nm_spec_l05Root (atrrrr c_spec_l05Root) _ (kRet Try.prog Try.f49.results.toList)))
theorem e_spec_l05Root (env : Nat → Contract) (x0 : AV) (h : Heap) : denFn Try.prog env n_spec_l05Root [x0] h = obind (loopP hm0_spec_l05Root xm0_spec_l05Root (lb0_spec_l05Root env) [x0, und, (iv 0), (iv 0), (iv 40000000), .top, .top, .top, .top, .top, .top, .top, .top, .top, .top, .top, .top, .top, .top, .top, .top, .top, und] h) fun r => lk0_spec_l05Root env r.1 r.2.1 r.2.2 := by kernel_rfl
theorem e_lb0_spec_l05Root (env : Nat → Contract) (y0 y1 y2 y3 y4 y22 : AV) (h : Heap) : lb0_spec_l05Root env [y0, y1, y2, y3, y4, .top, .top, .top, .top, .top, .top, .top, .top, .top, .top, .top, .top, .top, .top, .top, .top, .top, y22] h = obind (aBin .lss y3 y4) fun v1 => condB v1 (obind (aBin .add y3 y4) fun v2 => obind (aBin .add v2 (iv 1)) fun v3 => obind (aBin .quo v3 (iv 2)) fun v4 => obind (aBin .mul v4 v4) fun v5 => obind (aBin .leq v5 y0) fun v6 => condB v6 (some (.normal, [y0, y1, y2, v4, y4, v4, y3, y4, v1, y3, y4, v2, v3, v4, v4, v4, v5, y0, v6, v4, .top, .top, y22], h)) (obind (aBin .sub v4 (iv 1)) fun v7 => some (.normal, [y0, y1, y2, y3, v7, v4, y3, y4, v1, y3, y4, v2, v3, v4, v4, v4, v5, y0, v6, .top, v4, v7, y22], h))) (some (.exit 0, [y0, y1, y2, y3, y4, .top, y3, y4, v1, .top, .top, .top, .top, .top, .top, .top, .top, .top, .top, .top, .top, .top, y22], h)) := by kernel_rfl
theorem e_lk0x0_spec_l05Root (env : Nat → Contract) (z0 z1 z2 z3 z4 z5 z22 : AV) (h : Heap) : lk0_spec_l05Root env (.exit 0) [z0, z1, z2, z3, z4, z5, .top, .top, .top, .top, .top, .top, .top, .top, .top, .top, .top, .top, .top, .top, .top, .top, z22] h = some (z3, h) := by kernel_rfl
theorem hb_impl_ValidFraction : HasBody Try.prog n_impl_ValidFraction := ⟨Try.f50, _, Try.func50, rfl, by decide⟩
theorem e_impl_ValidFraction (env : Nat → Contract) (x0 : AV) (h : Heap) : denFn Try.prog env n_impl_ValidFraction [x0] h = obind2 (aBox (AV.cells x0) h) fun v1 h2 => obind (aFieldAddr 0 v1) fun v3 => obind (aLoad false 1 v3 h2) fun v4 => obind2 (aCall (env n_impl_within) [v4, (iv (-1000000000)), (iv 1000000000)] h2) fun v5 h6 => obind2 (guardB v5 true (obind (aFieldAddr 1 v1) fun v7 => obind (aLoad false 1 v7 h6) fun v8 => obind2 (aCall (env n_impl_within) [v8, (iv 1), (iv 1000000000)] h6) fun v9 h10 => some (v9, h10)) (some (und, h6))) fun v11 h12 => obind (aPick v5 v11 (bv false)) fun v13 => obind2 (guardB v13 true (obind (aFieldAddr 0 v1) fun v14 => obind (aLoad false 1 v14 h12) fun v15 => obind (aFieldAddr 1 v1) fun v16 => obind (aLoad false 1 v16 h12) fun v17 => obind2 (aCall (env n_impl_gcd) [v15, v17] h12) fun v18 h19 => obind (aCmp .eql .plain v18 (iv 1)) fun v20 => some (v20, h19)) (some (und, h12))) fun v21 h22 => obind (aPick v13 v21 (bv false)) fun v23 => some (v23, h22) := by kernel_rfl
noncomputable abbrev c_impl_rootOf : Code := (Try.f51.body).getD .skip
noncomputable abbrev nm_impl_rootOf : List Bool := namedOf Try.f51
theorem hb_impl_rootOf : HasBody Try.prog n_impl_rootOf := ⟨Try.f51, _, Try.func51, rfl, by decide⟩
abbrev hm0_impl_rootOf : List Bool := [true, true, true, true, true, true, true, true, true, true, true, true, true, true, true, true, true, true, true, false, false, false, false, false, false, false, false, false, false, true]
abbrev xm0_impl_rootOf : List Bool := [true, true, true, true, true, true, true, true, true, true, true, true, true, true, true, true, true, true, true, false, false, false, false, false, false, false, false, false, false, true]
noncomputable def lb0_impl_rootOf (env : Nat → Contract) : TM → Heap → Option Res := fun tm h => denC Try.prog env nm_impl_rootOf (atrrrlrll c_impl_rootOf) Res tm h fun e tm h => some (e, tm, h)
noncomputable def lk0_impl_rootOf (env : Nat → Contract) : AX → TM → Heap → Option (AV × Heap) := (kBlock 0 (kSeq Try.prog env nm_impl_rootOf (atrrrr c_impl_rootOf) _ (kRet Try.prog Try.f51.results.toList)))
theorem e_impl_rootOf (env : Nat → Contract) (x0 : AV) (h : Heap) : denFn Try.prog env n_impl_rootOf [x0] h = obind (aCmp .eql .plain x0 (iv 0)) fun v1 => condB v1 (some ((iv 0), h)) (obind (aConvInt .u64 x0) fun v2 => obind2 (aCall (env n_math_bits_Len64) [v2] h) fun v3 h4 => obind (aBin .add v3 (iv 1)) fun v5 => obind (aBin .quo v5 (iv 2)) fun v6 => obind (aBin .shl (iv 1) v6) fun v7 => obind (aBin .quo x0 v7) fun v8 => obind (aBin .add v7 v8) fun v9 => obind (aBin .quo v9 (iv 2)) fun v10 => obind (loopP hm0_impl_rootOf xm0_impl_rootOf (lb0_impl_rootOf env) [x0, und, (iv 0), v7, v10, x0, v1, x0, v2, v3, v5, v6, v7, v7, x0, v7, v8, v9, v10, .top, .top, .top, .top, .top, .top, .top, .top, .top, .top, und] h4) fun r => lk0_impl_rootOf env r.1 r.2.1 r.2.2) := by kernel_rfl
theorem e_lb0_impl_rootOf (env : Nat → Contract) (y0 y1 y2 y3 y4 y5 y6 y7 y8 y9 y10 y11 y12 y13 y14 y15 y16 y17 y18 y29 : AV) (h : Heap) : lb0_impl_rootOf env [y0, y1, y2, y3, y4, y5, y6, y7, y8, y9, y10, y11, y12, y13, y14, y15, y16, y17, y18, .top, .top, .top, .top, .top, .top, .top, .top, .top, .top, y29] h = obind (aBin .lss y4 y3) fun v11 => condB v11 (obind (aBin .quo y0 y4) fun v12 => obind (aBin .add y4 v12) fun v13 => obind (aBin .quo v13 (iv 2)) fun v14 => some (.normal, [y0, y1, y2, y4, v14, y5, y6, y7, y8, y9, y10, y11, y12, y13, y14, y15, y16, y17, y18, y4, y3, v11, y4, y0, y4, v12, v13, v14, y4, y29], h)) (some (.exit 0, [y0, y1, y2, y3, y4, y5, y6, y7, y8, y9, y10, y11, y12, y13, y14, y15, y16, y17, y18, y4, y3, v11, .top, .top, .top, .top, .top, .top, .top, y29], h)) := by kernel_rfl
theorem e_lk0x0_impl_rootOf (env : Nat → Contract) (z0 z1 z2 z3 z4 z5 z6 z7 z8 z9 z10 z11 z12 z13 z14 z15 z16 z17 z18 z29 : AV) (h : Heap) : lk0_impl_rootOf env (.exit 0) [z0, z1, z2, z3, z4, z5, z6, z7, z8, z9, z10, z11, z12, z13, z14, z15, z16, z17, z18, .top, .top, .top, .top, .top, .top, .top, .top, .top, .top, z29] h = some (z3, h) := by kernel_rfl
theorem hb_spec_l00In : HasBody Try.prog n_spec_l00In := ⟨Try.f53, _, Try.func53, rfl, by decide⟩
theorem e_spec_l00In (env : Nat → Contract) (x0 x1 x2 : AV) (h : Heap) : denFn Try.prog env n_spec_l00In [x0, x1, x2] h = obind (aBin .geq x0 x1) fun v1 => obind2 (guardB v1 true (obind (aBin .leq x0 x2) fun v2 => some (v2, h)) (some (und, h))) fun v3 h4 => obind (aPick v1 v3 (bv false)) fun v5 => some (v5, h4) := by kernel_rfl
theorem hb_impl_within : HasBody Try.prog n_impl_within := ⟨Try.f56, _, Try.func56, rfl, by decide⟩
theorem e_impl_within (env : Nat → Contract) (x0 x1 x2 : AV) (h : Heap) : denFn Try.prog env n_impl_within [x0, x1, x2] h = obind (aBin .geq x0 x1) fun v1 => obind2 (guardB v1 true (obind (aBin .leq x0 x2) fun v2 => some (v2, h)) (some (und, h))) fun v3 h4 => obind (aPick v1 v3 (bv false)) fun v5 => some (v5, h4) := by kernel_rfl
noncomputable abbrev c_spec_l22Gcd : Code := (Try.f76.body).getD .skip
noncomputable abbrev nm_spec_l22Gcd : List Bool := namedOf Try.f76
theorem hb_spec_l22Gcd : HasBody Try.prog n_spec_l22Gcd := ⟨Try.f76, _, Try.func76, rfl, by decide⟩
abbrev hm0_spec_l22Gcd : List Bool := [true, true, true, true, true, false, false, false, false, false, false, true]
abbrev xm0_spec_l22Gcd : List Bool := [true, true, true, true, true, false, false, false, false, false, false, true]
noncomputable def lb0_spec_l22Gcd (env : Nat → Contract) : TM → Heap → Option Res := fun tm h => denC Try.prog env nm_spec_l22Gcd (atrlll c_spec_l22Gcd) Res tm h fun e tm h => some (e, tm, h)
noncomputable def lk0_spec_l22Gcd (env : Nat → Contract) : AX → TM → Heap → Option (AV × Heap) := (kBlock 0 (kSeq Try.prog env nm_spec_l22Gcd (atrr c_spec_l22Gcd) _ (kRet Try.prog Try.f76.results.toList)))
theorem e_spec_l22Gcd (env : Nat → Contract) (x0 x1 : AV) (h : Heap) : denFn Try.prog env n_spec_l22Gcd [x0, x1] h = obind (loopP hm0_spec_l22Gcd xm0_spec_l22Gcd (lb0_spec_l22Gcd env) [x0, x1, und, und, (iv 0), .top, .top, .top, .top, .top, .top, und] h) fun r => lk0_spec_l22Gcd env r.1 r.2.1 r.2.2 := by kernel_rfl
theorem e_lb0_spec_l22Gcd (env : Nat → Contract) (y0 y1 y2 y3 y4 y11 : AV) (h : Heap) : lb0_spec_l22Gcd env [y0, y1, y2, y3, y4, .top, .top, .top, .top, .top, .top, y11] h = obind (aCmp .neq .plain y1 (iv 0)) fun v1 => condB v1 (obind (aBin .rem y0 y1) fun v2 => some (.normal, [y1, v2, y2, y3, y4, y1, v1, y1, y0, y1, v2, y11], h)) (some (.exit 0, [y0, y1, y2, y3, y4, y1, v1, .top, .top, .top, .top, y11], h)) := by kernel_rfl
theorem e_lk0x0_spec_l22Gcd (env : Nat → Contract) (z0 z1 z2 z3 z4 z11 : AV) (h : Heap) : lk0_spec_l22Gcd env (.exit 0) [z0, z1, z2, z3, z4, .top, .top, .top, .top, .top, .top, z11] h = some (z0, h) := by kernel_rfl
theorem hb_spec_l05Size : HasBody Try.prog n_spec_l05Size := ⟨Try.f77, _, Try.func77, rfl, by decide⟩
theorem e_spec_l05Size (env : Nat → Contract) (x0 : AV) (h : Heap) : denFn Try.prog env n_spec_l05Size [x0] h = obind (aBin .lss x0 (iv 0)) fun v1 => condB v1 (obind (aUn .neg x0) fun v2 => some (v2, h)) (some (x0, h)) := by kernel_rfl
noncomputable abbrev c_impl_gcd : Code := (Try.f78.body).getD .skip
noncomputable abbrev nm_impl_gcd : List Bool := namedOf Try.f78
theorem hb_impl_gcd : HasBody Try.prog n_impl_gcd := ⟨Try.f78, _, Try.func78, rfl, by decide⟩
abbrev hm0_impl_gcd : List Bool := [true, true, true, true, true, false, false, false, false, false, false, true, true]
abbrev xm0_impl_gcd : List Bool := [true, true, true, true, true, false, false, false, false, false, false, true, true]
noncomputable def lb0_impl_gcd (env : Nat → Contract) : TM → Heap → Option Res := fun tm h => denC Try.prog env nm_impl_gcd (atrlll c_impl_gcd) Res tm h fun e tm h => some (e, tm, h)
noncomputable def lk0_impl_gcd (env : Nat → Contract) : AX → TM → Heap → Option (AV × Heap) := (kBlock 0 (kSeq Try.prog env nm_impl_gcd (atrr c_impl_gcd) _ (kRet Try.prog Try.f78.results.toList)))
theorem e_impl_gcd (env : Nat → Contract) (x0 x1 : AV) (h : Heap) : denFn Try.prog env n_impl_gcd [x0, x1] h = obind (loopP hm0_impl_gcd xm0_impl_gcd (lb0_impl_gcd env) [x0, x1, und, und, (iv 0), .top, .top, .top, .top, .top, .top, und, und] h) fun r => lk0_impl_gcd env r.1 r.2.1 r.2.2 := by kernel_rfl
theorem e_lb0_impl_gcd (env : Nat → Contract) (y0 y1 y2 y3 y4 y11 y12 : AV) (h : Heap) : lb0_impl_gcd env [y0, y1, y2, y3, y4, .top, .top, .top, .top, .top, .top, y11, y12] h = obind (aCmp .neq .plain y1 (iv 0)) fun v1 => condB v1 (obind (aBin .rem y0 y1) fun v2 => some (.normal, [y1, v2, y2, y3, y4, y1, v1, y1, y0, y1, v2, y11, y12], h)) (some (.exit 0, [y0, y1, y2, y3, y4, y1, v1, .top, .top, .top, .top, y11, y12], h)) := by kernel_rfl
theorem e_lk0x0_impl_gcd (env : Nat → Contract) (z0 z1 z2 z3 z4 z11 z12 : AV) (h : Heap) : lk0_impl_gcd env (.exit 0) [z0, z1, z2, z3, z4, .top, .top, .top, .top, .top, .top, z11, z12] h = obind2 (aCall (env n_impl_abs) [z0] h) fun v3 h4 => some (v3, h4) := by kernel_rfl
theorem hb_math_bits_Len64 : HasBody Try.prog n_math_bits_Len64 := ⟨Try.f79, _, Try.func79, rfl, by decide⟩
theorem e_math_bits_Len64 (env : Nat → Contract) (x0 : AV) (h : Heap) : denFn Try.prog env n_math_bits_Len64 [x0] h = obind (aBin .geq x0 (.sc (.int .u64 4294967296))) fun v1 => condB v1 (obind (aBin .shr x0 (.sc (.int .u64 32))) fun v2 => obind (aBin .geq v2 (.sc (.int .u64 65536))) fun v3 => condB v3 (obind (aBin .shr v2 (.sc (.int .u64 16))) fun v4 => obind (aBin .add (iv 32) (iv 16)) fun v5 => obind (aBin .geq v4 (.sc (.int .u64 256))) fun v6 => condB v6 (obind (aBin .shr v4 (.sc (.int .u64 8))) fun v7 => obind (aBin .add v5 (iv 8)) fun v8 => obind (aConvInt .u8 v7) fun v9 => obind (aIndexStr (sv ⟨#[0, 1, 2, 2, 3, 3, 3, 3, 4, 4, 4, 4, 4, 4, 4, 4, 5, 5, 5, 5, 5, 5, 5, 5, 5, 5, 5, 5, 5, 5, 5, 5, 6, 6, 6, 6, 6, 6, 6, 6, 6, 6, 6, 6, 6, 6, 6, 6, 6, 6, 6, 6, 6, 6, 6, 6, 6, 6, 6, 6, 6, 6, 6, 6, 7, 7, 7, 7, 7, 7, 7, 7, 7, 7, 7, 7, 7, 7, 7, 7, 7, 7, 7, 7, 7, 7, 7, 7, 7, 7, 7, 7, 7, 7, 7, 7, 7, 7, 7, 7, 7, 7, 7, 7, 7, 7, 7, 7, 7, 7, 7, 7, 7, 7, 7, 7, 7, 7, 7, 7, 7, 7, 7, 7, 7, 7, 7, 7, 8, 8, 8, 8, 8, 8, 8, 8, 8, 8, 8, 8, 8, 8, 8, 8, 8, 8, 8, 8, 8, 8, 8, 8, 8, 8, 8, 8, 8, 8, 8, 8, 8, 8, 8, 8, 8, 8, 8, 8, 8, 8, 8, 8, 8, 8, 8, 8, 8, 8, 8, 8, 8, 8, 8, 8, 8, 8, 8, 8, 8, 8, 8, 8, 8, 8, 8, 8, 8, 8, 8, 8, 8, 8, 8, 8, 8, 8, 8, 8, 8, 8, 8, 8, 8, 8, 8, 8, 8, 8, 8, 8, 8, 8, 8, 8, 8, 8, 8, 8, 8, 8, 8, 8, 8, 8, 8, 8, 8, 8, 8, 8, 8, 8, 8, 8, 8, 8, 8, 8, 8, 8, 8, 8, 8, 8, 8, 8]⟩) v9) fun v10 => obind (aConvInt .i64 v10) fun v11 => obind (aBin .add v8 v11) fun v12 => some (v12, h)) (obind (aConvInt .u8 v4) fun v13 => obind (aIndexStr (sv ⟨#[0, 1, 2, 2, 3, 3, 3, 3, 4, 4, 4, 4, 4, 4, 4, 4, 5, 5, 5, 5, 5, 5, 5, 5, 5, 5, 5, 5, 5, 5, 5, 5, 6, 6, 6, 6, 6, 6, 6, 6, 6, 6, 6, 6, 6, 6, 6, 6, 6, 6, 6, 6, 6, 6, 6, 6, 6, 6, 6, 6, 6, 6, 6, 6, 7, 7, 7, 7, 7, 7, 7, 7, 7, 7, 7, 7, 7, 7, 7, 7, 7, 7, 7, 7, 7, 7, 7, 7, 7, 7, 7, 7, 7, 7, 7, 7, 7, 7, 7, 7, 7, 7, 7, 7, 7, 7, 7, 7, 7, 7, 7, 7, 7, 7, 7, 7, 7, 7, 7, 7, 7, 7, 7, 7, 7, 7, 7, 7, 8, 8, 8, 8, 8, 8, 8, 8, 8, 8, 8, 8, 8, 8, 8, 8, 8, 8, 8, 8, 8, 8, 8, 8, 8, 8, 8, 8, 8, 8, 8, 8, 8, 8, 8, 8, 8, 8, 8, 8, 8, 8, 8, 8, 8, 8, 8, 8, 8, 8, 8, 8, 8, 8, 8, 8, 8, 8, 8, 8, 8, 8, 8, 8, 8, 8, 8, 8, 8, 8, 8, 8, 8, 8, 8, 8, 8, 8, 8, 8, 8, 8, 8, 8, 8, 8, 8, 8, 8, 8, 8, 8, 8, 8, 8, 8, 8, 8, 8, 8, 8, 8, 8, 8, 8, 8, 8, 8, 8, 8, 8, 8, 8, 8, 8, 8, 8, 8, 8, 8, 8, 8, 8, 8, 8, 8, 8, 8]⟩) v13) fun v14 => obind (aConvInt .i64 v14) fun v15 => obind (aBin .add v5 v15) fun v16 => some (v16, h))) (obind (aBin .geq v2 (.sc (.int .u64 256))) fun v17 => condB v17 (obind (aBin .shr v2 (.sc (.int .u64 8))) fun v18 => obind (aBin .add (iv 32) (iv 8)) fun v19 => obind (aConvInt .u8 v18) fun v20 => obind (aIndexStr (sv ⟨#[0, 1, 2, 2, 3, 3, 3, 3, 4, 4, 4, 4, 4, 4, 4, 4, 5, 5, 5, 5, 5, 5, 5, 5, 5, 5, 5, 5, 5, 5, 5, 5, 6, 6, 6, 6, 6, 6, 6, 6, 6, 6, 6, 6, 6, 6, 6, 6, 6, 6, 6, 6, 6, 6, 6, 6, 6, 6, 6, 6, 6, 6, 6, 6, 7, 7, 7, 7, 7, 7, 7, 7, 7, 7, 7, 7, 7, 7, 7, 7, 7, 7, 7, 7, 7, 7, 7, 7, 7, 7, 7, 7, 7, 7, 7, 7, 7, 7, 7, 7, 7, 7, 7, 7, 7, 7, 7, 7, 7, 7, 7, 7, 7, 7, 7, 7, 7, 7, 7, 7, 7, 7, 7, 7, 7, 7, 7, 7, 8, 8, 8, 8, 8, 8, 8, 8, 8, 8, 8, 8, 8, 8, 8, 8, 8, 8, 8, 8, 8, 8, 8, 8, 8, 8, 8, 8, 8, 8, 8, 8, 8, 8, 8, 8, 8, 8, 8, 8, 8, 8, 8, 8, 8, 8, 8, 8, 8, 8, 8, 8, 8, 8, 8, 8, 8, 8, 8, 8, 8, 8, 8, 8, 8, 8, 8, 8, 8, 8, 8, 8, 8, 8, 8, 8, 8, 8, 8, 8, 8, 8, 8, 8, 8, 8, 8, 8, 8, 8, 8, 8, 8, 8, 8, 8, 8, 8, 8, 8, 8, 8, 8, 8, 8, 8, 8, 8, 8, 8, 8, 8, 8, 8, 8, 8, 8, 8, 8, 8, 8, 8, 8, 8, 8, 8, 8, 8]⟩) v20) fun v21 => obind (aConvInt .i64 v21) fun v22 => obind (aBin .add v19 v22) fun v23 => some (v23, h)) (obind (aConvInt .u8 v2) fun v24 => obind (aIndexStr (sv ⟨#[0, 1, 2, 2, 3, 3, 3, 3, 4, 4, 4, 4, 4, 4, 4, 4, 5, 5, 5, 5, 5, 5, 5, 5, 5, 5, 5, 5, 5, 5, 5, 5, 6, 6, 6, 6, 6, 6, 6, 6, 6, 6, 6, 6, 6, 6, 6, 6, 6, 6, 6, 6, 6, 6, 6, 6, 6, 6, 6, 6, 6, 6, 6, 6, 7, 7, 7, 7, 7, 7, 7, 7, 7, 7, 7, 7, 7, 7, 7, 7, 7, 7, 7, 7, 7, 7, 7, 7, 7, 7, 7, 7, 7, 7, 7, 7, 7, 7, 7, 7, 7, 7, 7, 7, 7, 7, 7, 7, 7, 7, 7, 7, 7, 7, 7, 7, 7, 7, 7, 7, 7, 7, 7, 7, 7, 7, 7, 7, 8, 8, 8, 8, 8, 8, 8, 8, 8, 8, 8, 8, 8, 8, 8, 8, 8, 8, 8, 8, 8, 8, 8, 8, 8, 8, 8, 8, 8, 8, 8, 8, 8, 8, 8, 8, 8, 8, 8, 8, 8, 8, 8, 8, 8, 8, 8, 8, 8, 8, 8, 8, 8, 8, 8, 8, 8, 8, 8, 8, 8, 8, 8, 8, 8, 8, 8, 8, 8, 8, 8, 8, 8, 8, 8, 8, 8, 8, 8, 8, 8, 8, 8, 8, 8, 8, 8, 8, 8, 8, 8, 8, 8, 8, 8, 8, 8, 8, 8, 8, 8, 8, 8, 8, 8, 8, 8, 8, 8, 8, 8, 8, 8, 8, 8, 8, 8, 8, 8, 8, 8, 8, 8, 8, 8, 8, 8, 8]⟩) v24) fun v25 => obind (aConvInt .i64 v25) fun v26 => obind (aBin .add (iv 32) v26) fun v27 => some (v27, h)))) (obind (aBin .geq x0 (.sc (.int .u64 65536))) fun v28 => condB v28 (obind (aBin .shr x0 (.sc (.int .u64 16))) fun v29 => obind (aBin .add (iv 0) (iv 16)) fun v30 => obind (aBin .geq v29 (.sc (.int .u64 256))) fun v31 => condB v31 (obind (aBin .shr v29 (.sc (.int .u64 8))) fun v32 => obind (aBin .add v30 (iv 8)) fun v33 => obind (aConvInt .u8 v32) fun v34 => obind (aIndexStr (sv ⟨#[0, 1, 2, 2, 3, 3, 3, 3, 4, 4, 4, 4, 4, 4, 4, 4, 5, 5, 5, 5, 5, 5, 5, 5, 5, 5, 5, 5, 5, 5, 5, 5, 6, 6, 6, 6, 6, 6, 6, 6, 6, 6, 6, 6, 6, 6, 6, 6, 6, 6, 6, 6, 6, 6, 6, 6, 6, 6, 6, 6, 6, 6, 6, 6, 7, 7, 7, 7, 7, 7, 7, 7, 7, 7, 7, 7, 7, 7, 7, 7, 7, 7, 7, 7, 7, 7, 7, 7, 7, 7, 7, 7, 7, 7, 7, 7, 7, 7, 7, 7, 7, 7, 7, 7, 7, 7, 7, 7, 7, 7, 7, 7, 7, 7, 7, 7, 7, 7, 7, 7, 7, 7, 7, 7, 7, 7, 7, 7, 8, 8, 8, 8, 8, 8, 8, 8, 8, 8, 8, 8, 8, 8, 8, 8, 8, 8, 8, 8, 8, 8, 8, 8, 8, 8, 8, 8, 8, 8, 8, 8, 8, 8, 8, 8, 8, 8, 8, 8, 8, 8, 8, 8, 8, 8, 8, 8, 8, 8, 8, 8, 8, 8, 8, 8, 8, 8, 8, 8, 8, 8, 8, 8, 8, 8, 8, 8, 8, 8, 8, 8, 8, 8, 8, 8, 8, 8, 8, 8, 8, 8, 8, 8, 8, 8, 8, 8, 8, 8, 8, 8, 8, 8, 8, 8, 8, 8, 8, 8, 8, 8, 8, 8, 8, 8, 8, 8, 8, 8, 8, 8, 8, 8, 8, 8, 8, 8, 8, 8, 8, 8, 8, 8, 8, 8, 8, 8]⟩) v34) fun v35 => obind (aConvInt .i64 v35) fun v36 => obind (aBin .add v33 v36) fun v37 => some (v37, h)) (obind (aConvInt .u8 v29) fun v38 => obind (aIndexStr (sv ⟨#[0, 1, 2, 2, 3, 3, 3, 3, 4, 4, 4, 4, 4, 4, 4, 4, 5, 5, 5, 5, 5, 5, 5, 5, 5, 5, 5, 5, 5, 5, 5, 5, 6, 6, 6, 6, 6, 6, 6, 6, 6, 6, 6, 6, 6, 6, 6, 6, 6, 6, 6, 6, 6, 6, 6, 6, 6, 6, 6, 6, 6, 6, 6, 6, 7, 7, 7, 7, 7, 7, 7, 7, 7, 7, 7, 7, 7, 7, 7, 7, 7, 7, 7, 7, 7, 7, 7, 7, 7, 7, 7, 7, 7, 7, 7, 7, 7, 7, 7, 7, 7, 7, 7, 7, 7, 7, 7, 7, 7, 7, 7, 7, 7, 7, 7, 7, 7, 7, 7, 7, 7, 7, 7, 7, 7, 7, 7, 7, 8, 8, 8, 8, 8, 8, 8, 8, 8, 8, 8, 8, 8, 8, 8, 8, 8, 8, 8, 8, 8, 8, 8, 8, 8, 8, 8, 8, 8, 8, 8, 8, 8, 8, 8, 8, 8, 8, 8, 8, 8, 8, 8, 8, 8, 8, 8, 8, 8, 8, 8, 8, 8, 8, 8, 8, 8, 8, 8, 8, 8, 8, 8, 8, 8, 8, 8, 8, 8, 8, 8, 8, 8, 8, 8, 8, 8, 8, 8, 8, 8, 8, 8, 8, 8, 8, 8, 8, 8, 8, 8, 8, 8, 8, 8, 8, 8, 8, 8, 8, 8, 8, 8, 8, 8, 8, 8, 8, 8, 8, 8, 8, 8, 8, 8, 8, 8, 8, 8, 8, 8, 8, 8, 8, 8, 8, 8, 8]⟩) v38) fun v39 => obind (aConvInt .i64 v39) fun v40 => obind (aBin .add v30 v40) fun v41 => some (v41, h))) (obind (aBin .geq x0 (.sc (.int .u64 256))) fun v42 => condB v42 (obind (aBin .shr x0 (.sc (.int .u64 8))) fun v43 => obind (aBin .add (iv 0) (iv 8)) fun v44 => obind (aConvInt .u8 v43) fun v45 => obind (aIndexStr (sv ⟨#[0, 1, 2, 2, 3, 3, 3, 3, 4, 4, 4, 4, 4, 4, 4, 4, 5, 5, 5, 5, 5, 5, 5, 5, 5, 5, 5, 5, 5, 5, 5, 5, 6, 6, 6, 6, 6, 6, 6, 6, 6, 6, 6, 6, 6, 6, 6, 6, 6, 6, 6, 6, 6, 6, 6, 6, 6, 6, 6, 6, 6, 6, 6, 6, 7, 7, 7, 7, 7, 7, 7, 7, 7, 7, 7, 7, 7, 7, 7, 7, 7, 7, 7, 7, 7, 7, 7, 7, 7, 7, 7, 7, 7, 7, 7, 7, 7, 7, 7, 7, 7, 7, 7, 7, 7, 7, 7, 7, 7, 7, 7, 7, 7, 7, 7, 7, 7, 7, 7, 7, 7, 7, 7, 7, 7, 7, 7, 7, 8, 8, 8, 8, 8, 8, 8, 8, 8, 8, 8, 8, 8, 8, 8, 8, 8, 8, 8, 8, 8, 8, 8, 8, 8, 8, 8, 8, 8, 8, 8, 8, 8, 8, 8, 8, 8, 8, 8, 8, 8, 8, 8, 8, 8, 8, 8, 8, 8, 8, 8, 8, 8, 8, 8, 8, 8, 8, 8, 8, 8, 8, 8, 8, 8, 8, 8, 8, 8, 8, 8, 8, 8, 8, 8, 8, 8, 8, 8, 8, 8, 8, 8, 8, 8, 8, 8, 8, 8, 8, 8, 8, 8, 8, 8, 8, 8, 8, 8, 8, 8, 8, 8, 8, 8, 8, 8, 8, 8, 8, 8, 8, 8, 8, 8, 8, 8, 8, 8, 8, 8, 8, 8, 8, 8, 8, 8, 8]⟩) v45) fun v46 => obind (aConvInt .i64 v46) fun v47 => obind (aBin .add v44 v47) fun v48 => some (v48, h)) (obind (aConvInt .u8 x0) fun v49 => obind (aIndexStr (sv ⟨#[0, 1, 2, 2, 3, 3, 3, 3, 4, 4, 4, 4, 4, 4, 4, 4, 5, 5, 5, 5, 5, 5, 5, 5, 5, 5, 5, 5, 5, 5, 5, 5, 6, 6, 6, 6, 6, 6, 6, 6, 6, 6, 6, 6, 6, 6, 6, 6, 6, 6, 6, 6, 6, 6, 6, 6, 6, 6, 6, 6, 6, 6, 6, 6, 7, 7, 7, 7, 7, 7, 7, 7, 7, 7, 7, 7, 7, 7, 7, 7, 7, 7, 7, 7, 7, 7, 7, 7, 7, 7, 7, 7, 7, 7, 7, 7, 7, 7, 7, 7, 7, 7, 7, 7, 7, 7, 7, 7, 7, 7, 7, 7, 7, 7, 7, 7, 7, 7, 7, 7, 7, 7, 7, 7, 7, 7, 7, 7, 8, 8, 8, 8, 8, 8, 8, 8, 8, 8, 8, 8, 8, 8, 8, 8, 8, 8, 8, 8, 8, 8, 8, 8, 8, 8, 8, 8, 8, 8, 8, 8, 8, 8, 8, 8, 8, 8, 8, 8, 8, 8, 8, 8, 8, 8, 8, 8, 8, 8, 8, 8, 8, 8, 8, 8, 8, 8, 8, 8, 8, 8, 8, 8, 8, 8, 8, 8, 8, 8, 8, 8, 8, 8, 8, 8, 8, 8, 8, 8, 8, 8, 8, 8, 8, 8, 8, 8, 8, 8, 8, 8, 8, 8, 8, 8, 8, 8, 8, 8, 8, 8, 8, 8, 8, 8, 8, 8, 8, 8, 8, 8, 8, 8, 8, 8, 8, 8, 8, 8, 8, 8, 8, 8, 8, 8, 8, 8]⟩) v49) fun v50 => obind (aConvInt .i64 v50) fun v51 => obind (aBin .add (iv 0) v51) fun v52 => some (v52, h)))) := by kernel_rfl
theorem hb_impl_abs : HasBody Try.prog n_impl_abs := ⟨Try.f94, _, Try.func94, rfl, by decide⟩
theorem e_impl_abs (env : Nat → Contract) (x0 : AV) (h : Heap) : denFn Try.prog env n_impl_abs [x0] h = obind (aBin .lss x0 (iv 0)) fun v1 => condB v1 (obind (aUn .neg x0) fun v2 => some (v2, h)) (some (x0, h)) := by kernel_rfl
end Go.Proofs.Ytfladjnggkeiaaa
