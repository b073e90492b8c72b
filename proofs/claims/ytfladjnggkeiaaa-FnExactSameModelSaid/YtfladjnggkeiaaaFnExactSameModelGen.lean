/-
  The runs of the functions of this seat, in open form. Printed by a program of mine (gen.py).
-/
import Derived.Test.YtfladjnggkeiaaaProg
import Derived.Test.YtfladjnggkeiaaaEngKit
namespace Go.Proofs.Ytfladjnggkeiaaa
open Go Go.Eng

@[simp] abbrev n_laws_FnExactSameModel : Nat := 3
@[simp] abbrev n_laws_FnExactTokensOf : Nat := 4
@[simp] abbrev n_laws_FnExactRootFraction : Nat := 5
@[simp] abbrev n_laws_FnExactLineOfPoint : Nat := 6
@[simp] abbrev n_laws_FnExactPowerFraction : Nat := 7
@[simp] abbrev n_laws_FnExactBoxOfItems : Nat := 8
@[simp] abbrev n_laws_szModel : Nat := 9
@[simp] abbrev n_spec_SameModel : Nat := 10
@[simp] abbrev n_laws_toModel : Nat := 11
@[simp] abbrev n_impl_SameModel : Nat := 12
@[simp] abbrev n_laws_eqModel : Nat := 13
@[simp] abbrev n_spec_TokensOf : Nat := 14
@[simp] abbrev n_impl_TokensOf : Nat := 15
@[simp] abbrev n_laws_eqStringS : Nat := 16
@[simp] abbrev n_laws_markStringS : Nat := 17
@[simp] abbrev n_laws_heldStringS : Nat := 18
@[simp] abbrev n_spec_RootFraction : Nat := 19
@[simp] abbrev n_laws_toFraction : Nat := 20
@[simp] abbrev n_impl_RootFraction : Nat := 21
@[simp] abbrev n_laws_eqFraction : Nat := 22
@[simp] abbrev n_laws_szLineS : Nat := 23
@[simp] abbrev n_spec_LineOfPoint : Nat := 24
@[simp] abbrev n_laws_toLineS : Nat := 25
@[simp] abbrev n_impl_LineOfPoint : Nat := 26
@[simp] abbrev n_laws_eqLineS : Nat := 27
@[simp] abbrev n_spec_PowerFraction : Nat := 28
@[simp] abbrev n_impl_PowerFraction : Nat := 29
@[simp] abbrev n_laws_szBoxS : Nat := 30
@[simp] abbrev n_spec_BoxOfItems : Nat := 31
@[simp] abbrev n_laws_toBoxS : Nat := 32
@[simp] abbrev n_laws_toInt64S : Nat := 33
@[simp] abbrev n_impl_BoxOfItems : Nat := 34
@[simp] abbrev n_laws_eqBox : Nat := 35
@[simp] abbrev n_laws_eqBoxS : Nat := 36
@[simp] abbrev n_laws_eqInt64S : Nat := 37
@[simp] abbrev n_laws_szBigramS : Nat := 38
@[simp] abbrev n_spec_l18Same : Nat := 39
@[simp] abbrev n_laws_toBigramS : Nat := 40
@[simp] abbrev n_slices_Equal_impl_Bigram_impl_Bigram : Nat := 41
@[simp] abbrev n_laws_eqBigramS : Nat := 42
@[simp] abbrev n_spec_l22Tokens : Nat := 43
@[simp] abbrev n_impl_isDigit : Nat := 44
@[simp] abbrev n_impl_isLetter : Nat := 45
@[simp] abbrev n_strings_IndexByte : Nat := 46
@[simp] abbrev n_laws_markText : Nat := 47
@[simp] abbrev n_spec_l22Ok : Nat := 48
@[simp] abbrev n_spec_l05Root : Nat := 49
@[simp] abbrev n_impl_ValidFraction : Nat := 50
@[simp] abbrev n_impl_rootOf : Nat := 51
@[simp] abbrev n_laws_szLine : Nat := 52
@[simp] abbrev n_spec_l00In : Nat := 53
@[simp] abbrev n_spec_l19Away : Nat := 54
@[simp] abbrev n_laws_toLine : Nat := 55
@[simp] abbrev n_impl_within : Nat := 56
@[simp] abbrev n_impl_isCoord : Nat := 57
@[simp] abbrev n_impl_beyond : Nat := 58
@[simp] abbrev n_laws_eqLine : Nat := 59
@[simp] abbrev n_spec_l22Turn : Nat := 60
@[simp] abbrev n_spec_TimesFractions : Nat := 61
@[simp] abbrev n_impl_reciprocal : Nat := 62
@[simp] abbrev n_impl_TimesFractions : Nat := 63
@[simp] abbrev n_spec_l19Boxes : Nat := 64
@[simp] abbrev n_spec_l02Join : Nat := 65
@[simp] abbrev n_laws_toBox : Nat := 66
@[simp] abbrev n_impl_isPage : Nat := 67
@[simp] abbrev n_impl_areIndices : Nat := 68
@[simp] abbrev n_impl_joinBoxes : Nat := 69
@[simp] abbrev n_laws_szBigram : Nat := 70
@[simp] abbrev n_laws_toBigram : Nat := 71
@[simp] abbrev n_laws_eqBigram : Nat := 72
@[simp] abbrev n_spec_l01Digit : Nat := 73
@[simp] abbrev n_spec_l22Sign : Nat := 74
@[simp] abbrev n_internal_stringslite_IndexByte : Nat := 75
@[simp] abbrev n_spec_l22Gcd : Nat := 76
@[simp] abbrev n_spec_l05Size : Nat := 77
@[simp] abbrev n_impl_gcd : Nat := 78
@[simp] abbrev n_math_bits_Len64 : Nat := 79
@[simp] abbrev n_laws_szInt64S : Nat := 80
@[simp] abbrev n_spec_l00Max : Nat := 81
@[simp] abbrev n_spec_l22Code : Nat := 82
@[simp] abbrev n_spec_l22Make : Nat := 83
@[simp] abbrev n_impl_reduced : Nat := 84
@[simp] abbrev n_spec_l02Box : Nat := 85
@[simp] abbrev n_spec_l00Min : Nat := 86
@[simp] abbrev n_slices_ContainsFunc_impl_Box_impl_Box : Nat := 87
@[simp] abbrev n_impl_isPage_1 : Nat := 88
@[simp] abbrev n_impl_ValidBox : Nat := 89
@[simp] abbrev n_slices_ContainsFunc_int64_int64 : Nat := 90
@[simp] abbrev n_impl_areIndices_1 : Nat := 91
@[simp] abbrev n_spec_l01Small : Nat := 92
@[simp] abbrev n_internal_bytealg_IndexByteString : Nat := 93
@[simp] abbrev n_impl_abs : Nat := 94
@[simp] abbrev n_slices_IndexFunc_impl_Box_impl_Box : Nat := 95
@[simp] abbrev n_slices_IndexFunc_int64_int64 : Nat := 96
theorem mixed : Try.prog.follows .mixedOrders = true := by kernel_rfl
abbrev atrrr (c : Code) : Code := (codeR (codeR (codeR c)))
abbrev atrrrr (c : Code) : Code := (codeR (codeR (codeR (codeR c))))
abbrev atrrlrll (c : Code) : Code := (codeL (codeL (codeR (codeL (codeR (codeR c))))))
abbrev atrrrlrll (c : Code) : Code := (codeL (codeL (codeR (codeL (codeR (codeR (codeR c)))))))
theorem hb_laws_FnExactSameModel : HasBody Try.prog n_laws_FnExactSameModel := ⟨Try.f3, _, Try.func3, rfl, by decide⟩
theorem e_laws_FnExactSameModel (env : Nat → Contract) (x0 x1 : AV) (h : Heap) : denFn Try.prog env n_laws_FnExactSameModel [x0, x1] h = obind2 (aBox (AV.cells x0) h) fun v1 h2 => obind2 (aBox (AV.cells x1) h2) fun v3 h4 => obind (aLoad true 2 v1 h4) fun v5 => obind2 (aCall (env n_laws_szModel) [v5, (iv 1048576)] h4) fun v6 h7 => obind (aBin .lss v6 (iv 0)) fun v8 => condB v8 (some ((bv true), h7)) (obind (aLoad true 2 v3 h7) fun v9 => obind2 (aCall (env n_laws_szModel) [v9, v6] h7) fun v10 h11 => obind (aBin .lss v10 (iv 0)) fun v12 => condB v12 (some ((bv true), h11)) (obind (aLoad true 2 v1 h11) fun v13 => obind2 (aCallQ (env n_laws_toModel) [v13] h11) fun v14 h15 => obind (aLoad true 2 v3 h15) fun v16 => obind2 (aCallQ (env n_laws_toModel) [v16] h15) fun v17 h18 => obind2 (aCallQ (env n_spec_SameModel) [v14, v17] h18) fun v19 h20 => obind (aLoad true 2 v1 h20) fun v21 => obind2 (aCall (env n_laws_toModel) [v21] h20) fun v22 h23 => obind2 (aBox [(iv 0), nilS] h23) fun v24 h25 => obind (aStore 2 v24 v22 h25) fun h26 => obind (aLoad true 2 v3 h26) fun v27 => obind2 (aCall (env n_laws_toModel) [v27] h26) fun v28 h29 => obind2 (aBox [(iv 0), nilS] h29) fun v30 h31 => obind (aStore 2 v30 v28 h31) fun h32 => obind (aLoad true 2 v24 h32) fun v33 => obind (aLoad true 2 v30 h32) fun v34 => obind2 (aCall (env n_impl_SameModel) [v33, v34] h32) fun v35 h36 => obind (aCmp .neq .bool v35 v19) fun v37 => condB v37 (some ((bv false), h36)) (obind (aLoad true 2 v24 h36) fun v38 => obind (aLoad true 2 v1 h36) fun v39 => obind2 (aCallQ (env n_laws_toModel) [v39] h36) fun v40 h41 => obind2 (aCallQ (env n_laws_eqModel) [v38, v40] h41) fun v42 h43 => obind (aUn .not v42) fun v44 => condB v44 (some ((bv false), h43)) (obind (aLoad true 2 v30 h43) fun v45 => obind (aLoad true 2 v3 h43) fun v46 => obind2 (aCallQ (env n_laws_toModel) [v46] h43) fun v47 h48 => obind2 (aCallQ (env n_laws_eqModel) [v45, v47] h48) fun v49 h50 => obind (aUn .not v49) fun v51 => condB v51 (some ((bv false), h50)) (some ((bv true), h50)))))) := by kernel_rfl
theorem hb_laws_szModel : HasBody Try.prog n_laws_szModel := ⟨Try.f9, _, Try.func9, rfl, by decide⟩
theorem e_laws_szModel (env : Nat → Contract) (x0 x1 : AV) (h : Heap) : denFn Try.prog env n_laws_szModel [x0, x1] h = obind2 (aBox (AV.cells x0) h) fun v1 h2 => obind (aFieldAddr 1 v1) fun v3 => obind (aLoad false 1 v3 h2) fun v4 => obind2 (aCall (env n_laws_szBigramS) [v4, x1] h2) fun v5 h6 => obind (aBin .lss v5 (iv 0)) fun v7 => condB v7 (some ((iv (-1)), h6)) (some (v5, h6)) := by kernel_rfl
theorem hb_spec_SameModel : HasBody Try.prog n_spec_SameModel := ⟨Try.f10, _, Try.func10, rfl, by decide⟩
theorem e_spec_SameModel (env : Nat → Contract) (x0 x1 : AV) (h : Heap) : denFn Try.prog env n_spec_SameModel [x0, x1] h = obind2 (aBox (AV.cells x0) h) fun v1 h2 => obind2 (aBox (AV.cells x1) h2) fun v3 h4 => obind2 (aCall (env n_spec_l18Same) [v1, v3] h4) fun v5 h6 => some (v5, h6) := by kernel_rfl
theorem hb_laws_toModel : HasBody Try.prog n_laws_toModel := ⟨Try.f11, _, Try.func11, rfl, by decide⟩
theorem e_laws_toModel (env : Nat → Contract) (x0 : AV) (h : Heap) : denFn Try.prog env n_laws_toModel [x0] h = obind2 (aBox (AV.cells x0) h) fun v1 h2 => obind2 (aBox [(iv 0), nilS] h2) fun v3 h4 => obind2 (aBox [(iv 0), nilS] h4) fun v5 h6 => obind (aFieldAddr 0 v1) fun v7 => obind (aLoad false 1 v7 h6) fun v8 => obind (aFieldAddr 0 v5) fun v9 => obind (aStore 1 v9 v8 h6) fun h10 => obind (aFieldAddr 1 v1) fun v11 => obind (aLoad false 1 v11 h10) fun v12 => obind2 (aCall (env n_laws_toBigramS) [v12] h10) fun v13 h14 => obind (aFieldAddr 1 v5) fun v15 => obind (aStore 1 v15 v13 h14) fun h16 => obind (aLoad true 2 v5 h16) fun v17 => obind (aStore 2 v3 v17 h16) fun h18 => retL [.c true 2 v3] h18 := by kernel_rfl
theorem hb_impl_SameModel : HasBody Try.prog n_impl_SameModel := ⟨Try.f12, _, Try.func12, rfl, by decide⟩
theorem e_impl_SameModel (env : Nat → Contract) (x0 x1 : AV) (h : Heap) : denFn Try.prog env n_impl_SameModel [x0, x1] h = obind2 (aBox (AV.cells x0) h) fun v1 h2 => obind2 (aBox (AV.cells x1) h2) fun v3 h4 => obind (aFieldAddr 0 v1) fun v5 => obind (aLoad false 1 v5 h4) fun v6 => obind (aFieldAddr 0 v3) fun v7 => obind (aLoad false 1 v7 h4) fun v8 => obind (aCmp .eql .plain v6 v8) fun v9 => obind2 (guardB v9 true (obind (aFieldAddr 1 v1) fun v10 => obind (aLoad false 1 v10 h4) fun v11 => obind (aFieldAddr 1 v3) fun v12 => obind (aLoad false 1 v12 h4) fun v13 => obind2 (aCall (env n_slices_Equal_impl_Bigram_impl_Bigram) [v11, v13] h4) fun v14 h15 => some (v14, h15)) (some (und, h4))) fun v16 h17 => obind (aPick v9 v16 (bv false)) fun v18 => some (v18, h17) := by kernel_rfl
theorem hb_laws_eqModel : HasBody Try.prog n_laws_eqModel := ⟨Try.f13, _, Try.func13, rfl, by decide⟩
theorem e_laws_eqModel (env : Nat → Contract) (x0 x1 : AV) (h : Heap) : denFn Try.prog env n_laws_eqModel [x0, x1] h = obind2 (aBox (AV.cells x0) h) fun v1 h2 => obind2 (aBox (AV.cells x1) h2) fun v3 h4 => obind (aFieldAddr 0 v1) fun v5 => obind (aLoad false 1 v5 h4) fun v6 => obind (aFieldAddr 0 v3) fun v7 => obind (aLoad false 1 v7 h4) fun v8 => obind (aCmp .neq .plain v6 v8) fun v9 => condB v9 (some ((bv false), h4)) (obind (aFieldAddr 1 v1) fun v10 => obind (aLoad false 1 v10 h4) fun v11 => obind (aFieldAddr 1 v3) fun v12 => obind (aLoad false 1 v12 h4) fun v13 => obind2 (aCall (env n_laws_eqBigramS) [v11, v13] h4) fun v14 h15 => obind (aUn .not v14) fun v16 => condB v16 (some ((bv false), h15)) (some ((bv true), h15))) := by kernel_rfl
noncomputable abbrev c_laws_szBigramS : Code := (Try.f38.body).getD .skip
noncomputable abbrev nm_laws_szBigramS : List Bool := namedOf Try.f38
theorem hb_laws_szBigramS : HasBody Try.prog n_laws_szBigramS := ⟨Try.f38, _, Try.func38, rfl, by decide⟩
abbrev hm0_laws_szBigramS : List Bool := [true, true, true, true, false, true, true, true, true, true, true, true, false, false, false, false, false, false, false, false, false, false, false, false, false, false, true]
abbrev xm0_laws_szBigramS : List Bool := [true, true, true, true, true, true, true, true, true, true, true, true, false, false, false, false, false, false, false, false, false, false, false, false, false, false, true]
noncomputable def lb0_laws_szBigramS (env : Nat → Contract) : TM → Heap → Option Res := fun tm h => denC Try.prog env nm_laws_szBigramS (atrrrlrll c_laws_szBigramS) Res tm h fun e tm h => some (e, tm, h)
noncomputable def lk0_laws_szBigramS (env : Nat → Contract) : AX → TM → Heap → Option (AV × Heap) := (kBlock 0 (kSeq Try.prog env nm_laws_szBigramS (atrrrr c_laws_szBigramS) _ (kRet Try.prog Try.f38.results.toList)))
theorem e_laws_szBigramS (env : Nat → Contract) (x0 x1 : AV) (h : Heap) : denFn Try.prog env n_laws_szBigramS [x0, x1] h = obind (aLenK .slice x0) fun v1 => obind (aBin .sub x1 v1) fun v2 => obind (aBin .lss v2 (iv 0)) fun v3 => condB v3 (some ((iv (-1)), h)) (obind (loopP hm0_laws_szBigramS xm0_laws_szBigramS (lb0_laws_szBigramS env) [x0, v2, und, und, .top, (iv 0), x1, x0, v1, v2, v2, v3, .top, .top, .top, .top, .top, .top, .top, .top, .top, .top, .top, .top, .top, .top, und] h) fun r => lk0_laws_szBigramS env r.1 r.2.1 r.2.2) := by kernel_rfl
theorem e_lb0_laws_szBigramS (env : Nat → Contract) (y0 y1 y2 y3 y5 y6 y7 y8 y9 y10 y11 y26 : AV) (h : Heap) : lb0_laws_szBigramS env [y0, y1, y2, y3, .top, y5, y6, y7, y8, y9, y10, y11, .top, .top, .top, .top, .top, .top, .top, .top, .top, .top, .top, .top, .top, .top, y26] h = obind (aLenK .slice y0) fun v4 => obind (aBin .lss y5 v4) fun v5 => condB v5 (obind (aIndexAddr 3 y0 y5 h) fun v6 => obind (aLoad true 3 v6 h) fun v7 => obind2 (aCall (env n_laws_szBigram) [v7, y1] h) fun v8 h9 => obind (aBin .lss v8 (iv 0)) fun v10 => condB v10 (some (.ret, [y0, v8, y2, y3, (iv (-1)), y5, y6, y7, y8, y9, y10, y11, y5, y0, v4, v5, .top, .top, y0, y5, v6, v7, y1, v8, v8, v10, y26], h9)) (obind (aBin .add y5 (iv 1)) fun v11 => some (.normal, [y0, v8, y2, y3, .top, v11, y6, y7, y8, y9, y10, y11, y5, y0, v4, v5, y5, v11, y0, y5, v6, v7, y1, v8, v8, v10, y26], h9))) (some (.exit 0, [y0, y1, y2, y3, .top, y5, y6, y7, y8, y9, y10, y11, y5, y0, v4, v5, .top, .top, .top, .top, .top, .top, .top, .top, .top, .top, y26], h)) := by kernel_rfl
theorem e_lk0x0_laws_szBigramS (env : Nat → Contract) (z0 z1 z2 z3 z4 z5 z6 z7 z8 z9 z10 z11 z26 : AV) (h : Heap) : lk0_laws_szBigramS env (.exit 0) [z0, z1, z2, z3, z4, z5, z6, z7, z8, z9, z10, z11, .top, .top, .top, .top, .top, .top, .top, .top, .top, .top, .top, .top, .top, .top, z26] h = some (z1, h) := by kernel_rfl
theorem e_lk0r_laws_szBigramS (env : Nat → Contract) (z0 z1 z2 z3 z4 z5 z6 z7 z8 z9 z10 z11 z26 : AV) (h : Heap) : lk0_laws_szBigramS env .ret [z0, z1, z2, z3, z4, z5, z6, z7, z8, z9, z10, z11, .top, .top, .top, .top, .top, .top, .top, .top, .top, .top, .top, .top, .top, .top, z26] h = some (z4, h) := by kernel_rfl
noncomputable abbrev c_spec_l18Same : Code := (Try.f39.body).getD .skip
noncomputable abbrev nm_spec_l18Same : List Bool := namedOf Try.f39
theorem hb_spec_l18Same : HasBody Try.prog n_spec_l18Same := ⟨Try.f39, _, Try.func39, rfl, by decide⟩
abbrev hm0_spec_l18Same : List Bool := [true, true, true, true, false, true, true, true, true, true, true, true, true, true, true, true, true, true, true, true, true, true, true, true, true, true, true, true, false, false, false, false, false, false, false, false, false, false, false, false, false, false, false, false, false, false, false, false, false, false, false, false]
abbrev xm0_spec_l18Same : List Bool := [true, true, true, true, true, true, true, true, true, true, true, true, true, true, true, true, true, true, true, true, true, true, true, true, true, true, true, true, false, false, false, false, false, false, false, false, false, false, false, false, false, false, false, false, false, false, false, false, false, false, false, false]
noncomputable def lb0_spec_l18Same (env : Nat → Contract) : TM → Heap → Option Res := fun tm h => denC Try.prog env nm_spec_l18Same (atrrlrll c_spec_l18Same) Res tm h fun e tm h => some (e, tm, h)
noncomputable def lk0_spec_l18Same (env : Nat → Contract) : AX → TM → Heap → Option (AV × Heap) := (kBlock 0 (kSeq Try.prog env nm_spec_l18Same (atrrr c_spec_l18Same) _ (kRet Try.prog Try.f39.results.toList)))
theorem e_spec_l18Same (env : Nat → Contract) (x0 x1 : AV) (h : Heap) : denFn Try.prog env n_spec_l18Same [x0, x1] h = obind (aNilCheck x0) fun v1 => obind (aFieldAddr 0 v1) fun v2 => obind (aLoad false 1 v2 h) fun v3 => obind (aNilCheck x1) fun v4 => obind (aFieldAddr 0 v4) fun v5 => obind (aLoad false 1 v5 h) fun v6 => obind (aCmp .neq .plain v3 v6) fun v7 => obind2 (guardB v7 false (some (x0, h)) (some (und, h))) fun v8 h9 => obind2 (guardB v7 false (obind (aNilCheck v8) fun v10 => some (v10, h9)) (some (und, h9))) fun v11 h12 => obind2 (guardB v7 false (obind (aFieldAddr 1 v11) fun v13 => some (v13, h12)) (some (und, h12))) fun v14 h15 => obind2 (guardB v7 false (obind (aLoad false 1 v14 h15) fun v16 => some (v16, h15)) (some (und, h15))) fun v17 h18 => obind2 (guardB v7 false (obind (aLenK .slice v17) fun v19 => some (v19, h18)) (some (und, h18))) fun v20 h21 => obind2 (guardB v7 false (some (x1, h21)) (some (und, h21))) fun v22 h23 => obind2 (guardB v7 false (obind (aNilCheck v22) fun v24 => some (v24, h23)) (some (und, h23))) fun v25 h26 => obind2 (guardB v7 false (obind (aFieldAddr 1 v25) fun v27 => some (v27, h26)) (some (und, h26))) fun v28 h29 => obind2 (guardB v7 false (obind (aLoad false 1 v28 h29) fun v30 => some (v30, h29)) (some (und, h29))) fun v31 h32 => obind2 (guardB v7 false (obind (aLenK .slice v31) fun v33 => some (v33, h32)) (some (und, h32))) fun v34 h35 => obind2 (guardB v7 false (obind (aCmp .neq .plain v20 v34) fun v36 => some (v36, h35)) (some (und, h35))) fun v37 h38 => obind (aPick v7 (bv true) v37) fun v39 => condB v39 (some ((bv false), h38)) (obind (loopP hm0_spec_l18Same xm0_spec_l18Same (lb0_spec_l18Same env) [x0, x1, und, und, .top, (iv 0), x0, v1, v2, v3, x1, v4, v5, v6, v7, v7, v8, v11, v14, v17, v20, v22, v25, v28, v31, v34, v37, v39, .top, .top, .top, .top, .top, .top, .top, .top, .top, .top, .top, .top, .top, .top, .top, .top, .top, .top, .top, .top, .top, .top, .top, .top] h38) fun r => lk0_spec_l18Same env r.1 r.2.1 r.2.2) := by kernel_rfl
theorem e_lb0_spec_l18Same (env : Nat → Contract) (y0 y1 y2 y3 y5 y6 y7 y8 y9 y10 y11 y12 y13 y14 y15 y16 y17 y18 y19 y20 y21 y22 y23 y24 y25 y26 y27 : AV) (h : Heap) : lb0_spec_l18Same env [y0, y1, y2, y3, .top, y5, y6, y7, y8, y9, y10, y11, y12, y13, y14, y15, y16, y17, y18, y19, y20, y21, y22, y23, y24, y25, y26, y27, .top, .top, .top, .top, .top, .top, .top, .top, .top, .top, .top, .top, .top, .top, .top, .top, .top, .top, .top, .top, .top, .top, .top, .top] h = obind (aNilCheck y0) fun v40 => obind (aFieldAddr 1 v40) fun v41 => obind (aLoad false 1 v41 h) fun v42 => obind (aLenK .slice v42) fun v43 => obind (aBin .lss y5 v43) fun v44 => condB v44 (obind (aNilCheck y0) fun v45 => obind (aFieldAddr 1 v45) fun v46 => obind (aLoad false 1 v46 h) fun v47 => obind (aIndexAddr 3 v47 y5 h) fun v48 => obind (aLoad true 3 v48 h) fun v49 => obind (aNilCheck y1) fun v50 => obind (aFieldAddr 1 v50) fun v51 => obind (aLoad false 1 v51 h) fun v52 => obind (aIndexAddr 3 v52 y5 h) fun v53 => obind (aLoad true 3 v53 h) fun v54 => obind (aCmp .neq (.agg [.str, .str, .int]) v49 v54) fun v55 => condB v55 (some (.ret, [y0, y1, y2, y3, (bv false), y5, y6, y7, y8, y9, y10, y11, y12, y13, y14, y15, y16, y17, y18, y19, y20, y21, y22, y23, y24, y25, y26, y27, y5, y0, v40, v41, v42, v43, v44, .top, .top, y0, v45, v46, v47, y5, v48, v49, y1, v50, v51, v52, y5, v53, v54, v55], h)) (obind (aBin .add y5 (iv 1)) fun v56 => some (.normal, [y0, y1, y2, y3, .top, v56, y6, y7, y8, y9, y10, y11, y12, y13, y14, y15, y16, y17, y18, y19, y20, y21, y22, y23, y24, y25, y26, y27, y5, y0, v40, v41, v42, v43, v44, y5, v56, y0, v45, v46, v47, y5, v48, v49, y1, v50, v51, v52, y5, v53, v54, v55], h))) (some (.exit 0, [y0, y1, y2, y3, .top, y5, y6, y7, y8, y9, y10, y11, y12, y13, y14, y15, y16, y17, y18, y19, y20, y21, y22, y23, y24, y25, y26, y27, y5, y0, v40, v41, v42, v43, v44, .top, .top, .top, .top, .top, .top, .top, .top, .top, .top, .top, .top, .top, .top, .top, .top, .top], h)) := by kernel_rfl
theorem e_lk0x0_spec_l18Same (env : Nat → Contract) (z0 z1 z2 z3 z4 z5 z6 z7 z8 z9 z10 z11 z12 z13 z14 z15 z16 z17 z18 z19 z20 z21 z22 z23 z24 z25 z26 z27 : AV) (h : Heap) : lk0_spec_l18Same env (.exit 0) [z0, z1, z2, z3, z4, z5, z6, z7, z8, z9, z10, z11, z12, z13, z14, z15, z16, z17, z18, z19, z20, z21, z22, z23, z24, z25, z26, z27, .top, .top, .top, .top, .top, .top, .top, .top, .top, .top, .top, .top, .top, .top, .top, .top, .top, .top, .top, .top, .top, .top, .top, .top] h = some ((bv true), h) := by kernel_rfl
theorem e_lk0r_spec_l18Same (env : Nat → Contract) (z0 z1 z2 z3 z4 z5 z6 z7 z8 z9 z10 z11 z12 z13 z14 z15 z16 z17 z18 z19 z20 z21 z22 z23 z24 z25 z26 z27 : AV) (h : Heap) : lk0_spec_l18Same env .ret [z0, z1, z2, z3, z4, z5, z6, z7, z8, z9, z10, z11, z12, z13, z14, z15, z16, z17, z18, z19, z20, z21, z22, z23, z24, z25, z26, z27, .top, .top, .top, .top, .top, .top, .top, .top, .top, .top, .top, .top, .top, .top, .top, .top, .top, .top, .top, .top, .top, .top, .top, .top] h = some (z4, h) := by kernel_rfl
noncomputable abbrev c_laws_toBigramS : Code := (Try.f40.body).getD .skip
noncomputable abbrev nm_laws_toBigramS : List Bool := namedOf Try.f40
theorem hb_laws_toBigramS : HasBody Try.prog n_laws_toBigramS := ⟨Try.f40, _, Try.func40, rfl, by decide⟩
abbrev hm0_laws_toBigramS : List Bool := [true, true, true, true, true, true, true, true, false, false, false, false, false, false, false, false, false, false, false, false, false, false, true]
abbrev xm0_laws_toBigramS : List Bool := [true, true, true, true, true, true, true, true, false, false, false, false, false, false, false, false, false, false, false, false, false, false, true]
noncomputable def lb0_laws_toBigramS (env : Nat → Contract) : TM → Heap → Option Res := fun tm h => denC Try.prog env nm_laws_toBigramS (atrrlrll c_laws_toBigramS) Res tm h fun e tm h => some (e, tm, h)
noncomputable def lk0_laws_toBigramS (env : Nat → Contract) : AX → TM → Heap → Option (AV × Heap) := (kBlock 0 (kSeq Try.prog env nm_laws_toBigramS (atrrr c_laws_toBigramS) _ (kRet Try.prog Try.f40.results.toList)))
theorem e_laws_toBigramS (env : Nat → Contract) (x0 : AV) (h : Heap) : denFn Try.prog env n_laws_toBigramS [x0] h = obind (aLenK .slice x0) fun v1 => obind2 (aMakeSlice [(sv ⟨#[]⟩), (sv ⟨#[]⟩), (iv 0)] 40 v1 v1 h) fun v2 h3 => obind (loopP hm0_laws_toBigramS xm0_laws_toBigramS (lb0_laws_toBigramS env) [x0, und, nilS, v2, (iv 0), x0, v1, v2, .top, .top, .top, .top, .top, .top, .top, .top, .top, .top, .top, .top, .top, .top, und] h3) fun r => lk0_laws_toBigramS env r.1 r.2.1 r.2.2 := by kernel_rfl
theorem e_lb0_laws_toBigramS (env : Nat → Contract) (y0 y1 y2 y3 y4 y5 y6 y7 y22 : AV) (h : Heap) : lb0_laws_toBigramS env [y0, y1, y2, y3, y4, y5, y6, y7, .top, .top, .top, .top, .top, .top, .top, .top, .top, .top, .top, .top, .top, .top, y22] h = obind (aLenK .slice y0) fun v4 => obind (aBin .lss y4 v4) fun v5 => condB v5 (obind (aIndexAddr 3 y0 y4 h) fun v6 => obind (aLoad true 3 v6 h) fun v7 => obind2 (aCall (env n_laws_toBigram) [v7] h) fun v8 h9 => obind (aIndexAddr 3 y3 y4 h9) fun v10 => obind (aStore 3 v10 v8 h9) fun h11 => obind (aBin .add y4 (iv 1)) fun v12 => some (.normal, [y0, y1, y2, y3, v12, y5, y6, y7, y4, y0, v4, v5, y4, v12, y3, y4, y0, y4, v6, v7, v8, v10, y22], h11)) (some (.exit 0, [y0, y1, y2, y3, y4, y5, y6, y7, y4, y0, v4, v5, .top, .top, .top, .top, .top, .top, .top, .top, .top, .top, y22], h)) := by kernel_rfl
theorem e_lk0x0_laws_toBigramS (env : Nat → Contract) (z0 z1 z2 z3 z4 z5 z6 z7 z22 : AV) (h : Heap) : lk0_laws_toBigramS env (.exit 0) [z0, z1, z2, z3, z4, z5, z6, z7, .top, .top, .top, .top, .top, .top, .top, .top, .top, .top, .top, .top, .top, .top, z22] h = some (z3, h) := by kernel_rfl
noncomputable abbrev c_slices_Equal_impl_Bigram_impl_Bigram : Code := (Try.f41.body).getD .skip
noncomputable abbrev nm_slices_Equal_impl_Bigram_impl_Bigram : List Bool := namedOf Try.f41
theorem hb_slices_Equal_impl_Bigram_impl_Bigram : HasBody Try.prog n_slices_Equal_impl_Bigram_impl_Bigram := ⟨Try.f41, _, Try.func41, rfl, by decide⟩
abbrev hm0_slices_Equal_impl_Bigram_impl_Bigram : List Bool := [true, true, true, true, false, false, true, true, true, true, true, true, true, true, false, false, false, false, false, false, false, false, false, false, false, false]
abbrev xm0_slices_Equal_impl_Bigram_impl_Bigram : List Bool := [true, true, true, true, true, true, true, true, true, true, true, true, true, false, false, false, false, false, false, false, false, false, false, false, false, false]
noncomputable def lb0_slices_Equal_impl_Bigram_impl_Bigram (env : Nat → Contract) : TM → Heap → Option Res := fun tm h => denC Try.prog env nm_slices_Equal_impl_Bigram_impl_Bigram (atrrlrll c_slices_Equal_impl_Bigram_impl_Bigram) Res tm h fun e tm h => some (e, tm, h)
noncomputable def lk0_slices_Equal_impl_Bigram_impl_Bigram (env : Nat → Contract) : AX → TM → Heap → Option (AV × Heap) := (kBlock 0 (kSeq Try.prog env nm_slices_Equal_impl_Bigram_impl_Bigram (atrrr c_slices_Equal_impl_Bigram_impl_Bigram) _ (kRet Try.prog Try.f41.results.toList)))
theorem e_slices_Equal_impl_Bigram_impl_Bigram (env : Nat → Contract) (x0 x1 : AV) (h : Heap) : denFn Try.prog env n_slices_Equal_impl_Bigram_impl_Bigram [x0, x1] h = obind (aLenK .slice x0) fun v1 => obind (aLenK .slice x1) fun v2 => obind (aCmp .neq .plain v1 v2) fun v3 => condB v3 (some ((bv false), h)) (obind (aLenK .slice x0) fun v4 => obind (loopP hm0_slices_Equal_impl_Bigram_impl_Bigram xm0_slices_Equal_impl_Bigram_impl_Bigram (lb0_slices_Equal_impl_Bigram_impl_Bigram env) [x0, x1, und, und, .top, .top, x0, v1, x1, v2, v3, x0, v4, (iv 0), .top, .top, .top, .top, .top, .top, .top, .top, .top, .top, .top, .top] h) fun r => lk0_slices_Equal_impl_Bigram_impl_Bigram env r.1 r.2.1 r.2.2) := by kernel_rfl
theorem e_lb0_slices_Equal_impl_Bigram_impl_Bigram (env : Nat → Contract) (y0 y1 y2 y3 y6 y7 y8 y9 y10 y11 y12 y13 : AV) (h : Heap) : lb0_slices_Equal_impl_Bigram_impl_Bigram env [y0, y1, y2, y3, .top, .top, y6, y7, y8, y9, y10, y11, y12, y13, .top, .top, .top, .top, .top, .top, .top, .top, .top, .top, .top, .top] h = obind (aBin .lss y13 y12) fun v5 => condB v5 (obind (aIndexAddr 3 y0 y13 h) fun v6 => obind (aLoad true 3 v6 h) fun v7 => obind (aIndexAddr 3 y1 y13 h) fun v8 => obind (aLoad true 3 v8 h) fun v9 => obind (aCmp .neq (.agg [.str, .str, .int]) v7 v9) fun v10 => condB v10 (some (.ret, [y0, y1, y2, y3, (bv false), y13, y6, y7, y8, y9, y10, y11, y12, y13, v5, y13, y0, y13, v6, v7, y1, y13, v8, v9, v10, .top], h)) (obind (aBin .add y13 (iv 1)) fun v11 => some (.normal, [y0, y1, y2, y3, .top, y13, y6, y7, y8, y9, y10, y11, y12, v11, v5, y13, y0, y13, v6, v7, y1, y13, v8, v9, v10, v11], h))) (some (.exit 0, [y0, y1, y2, y3, .top, .top, y6, y7, y8, y9, y10, y11, y12, y13, v5, .top, .top, .top, .top, .top, .top, .top, .top, .top, .top, .top], h)) := by kernel_rfl
theorem e_lk0x0_slices_Equal_impl_Bigram_impl_Bigram (env : Nat → Contract) (z0 z1 z2 z3 z4 z5 z6 z7 z8 z9 z10 z11 z12 : AV) (h : Heap) : lk0_slices_Equal_impl_Bigram_impl_Bigram env (.exit 0) [z0, z1, z2, z3, z4, z5, z6, z7, z8, z9, z10, z11, z12, .top, .top, .top, .top, .top, .top, .top, .top, .top, .top, .top, .top, .top] h = some ((bv true), h) := by kernel_rfl
theorem e_lk0r_slices_Equal_impl_Bigram_impl_Bigram (env : Nat → Contract) (z0 z1 z2 z3 z4 z5 z6 z7 z8 z9 z10 z11 z12 : AV) (h : Heap) : lk0_slices_Equal_impl_Bigram_impl_Bigram env .ret [z0, z1, z2, z3, z4, z5, z6, z7, z8, z9, z10, z11, z12, .top, .top, .top, .top, .top, .top, .top, .top, .top, .top, .top, .top, .top] h = some (z4, h) := by kernel_rfl
noncomputable abbrev c_laws_eqBigramS : Code := (Try.f42.body).getD .skip
noncomputable abbrev nm_laws_eqBigramS : List Bool := namedOf Try.f42
theorem hb_laws_eqBigramS : HasBody Try.prog n_laws_eqBigramS := ⟨Try.f42, _, Try.func42, rfl, by decide⟩
abbrev hm0_laws_eqBigramS : List Bool := [true, true, true, true, false, true, true, true, true, true, true, false, false, false, false, false, false, false, false, false, false, false, false, false, false, false, false]
abbrev xm0_laws_eqBigramS : List Bool := [true, true, true, true, true, true, true, true, true, true, true, false, false, false, false, false, false, false, false, false, false, false, false, false, false, false, false]
noncomputable def lb0_laws_eqBigramS (env : Nat → Contract) : TM → Heap → Option Res := fun tm h => denC Try.prog env nm_laws_eqBigramS (atrrlrll c_laws_eqBigramS) Res tm h fun e tm h => some (e, tm, h)
noncomputable def lk0_laws_eqBigramS (env : Nat → Contract) : AX → TM → Heap → Option (AV × Heap) := (kBlock 0 (kSeq Try.prog env nm_laws_eqBigramS (atrrr c_laws_eqBigramS) _ (kRet Try.prog Try.f42.results.toList)))
theorem e_laws_eqBigramS (env : Nat → Contract) (x0 x1 : AV) (h : Heap) : denFn Try.prog env n_laws_eqBigramS [x0, x1] h = obind (aLenK .slice x0) fun v1 => obind (aLenK .slice x1) fun v2 => obind (aCmp .neq .plain v1 v2) fun v3 => condB v3 (some ((bv false), h)) (obind (loopP hm0_laws_eqBigramS xm0_laws_eqBigramS (lb0_laws_eqBigramS env) [x0, x1, und, und, .top, (iv 0), x0, v1, x1, v2, v3, .top, .top, .top, .top, .top, .top, .top, .top, .top, .top, .top, .top, .top, .top, .top, .top] h) fun r => lk0_laws_eqBigramS env r.1 r.2.1 r.2.2) := by kernel_rfl
theorem e_lb0_laws_eqBigramS (env : Nat → Contract) (y0 y1 y2 y3 y5 y6 y7 y8 y9 y10 : AV) (h : Heap) : lb0_laws_eqBigramS env [y0, y1, y2, y3, .top, y5, y6, y7, y8, y9, y10, .top, .top, .top, .top, .top, .top, .top, .top, .top, .top, .top, .top, .top, .top, .top, .top] h = obind (aLenK .slice y0) fun v4 => obind (aBin .lss y5 v4) fun v5 => condB v5 (obind (aIndexAddr 3 y0 y5 h) fun v6 => obind (aLoad true 3 v6 h) fun v7 => obind (aIndexAddr 3 y1 y5 h) fun v8 => obind (aLoad true 3 v8 h) fun v9 => obind2 (aCallQ (env n_laws_eqBigram) [v7, v9] h) fun v10 h11 => obind (aUn .not v10) fun v12 => condB v12 (some (.ret, [y0, y1, y2, y3, (bv false), y5, y6, y7, y8, y9, y10, y5, y0, v4, v5, .top, .top, y0, y5, v6, v7, y1, y5, v8, v9, v10, v12], h11)) (obind (aBin .add y5 (iv 1)) fun v13 => some (.normal, [y0, y1, y2, y3, .top, v13, y6, y7, y8, y9, y10, y5, y0, v4, v5, y5, v13, y0, y5, v6, v7, y1, y5, v8, v9, v10, v12], h11))) (some (.exit 0, [y0, y1, y2, y3, .top, y5, y6, y7, y8, y9, y10, y5, y0, v4, v5, .top, .top, .top, .top, .top, .top, .top, .top, .top, .top, .top, .top], h)) := by kernel_rfl
theorem e_lk0x0_laws_eqBigramS (env : Nat → Contract) (z0 z1 z2 z3 z4 z5 z6 z7 z8 z9 z10 : AV) (h : Heap) : lk0_laws_eqBigramS env (.exit 0) [z0, z1, z2, z3, z4, z5, z6, z7, z8, z9, z10, .top, .top, .top, .top, .top, .top, .top, .top, .top, .top, .top, .top, .top, .top, .top, .top] h = some ((bv true), h) := by kernel_rfl
theorem e_lk0r_laws_eqBigramS (env : Nat → Contract) (z0 z1 z2 z3 z4 z5 z6 z7 z8 z9 z10 : AV) (h : Heap) : lk0_laws_eqBigramS env .ret [z0, z1, z2, z3, z4, z5, z6, z7, z8, z9, z10, .top, .top, .top, .top, .top, .top, .top, .top, .top, .top, .top, .top, .top, .top, .top, .top] h = some (z4, h) := by kernel_rfl
theorem hb_laws_szBigram : HasBody Try.prog n_laws_szBigram := ⟨Try.f70, _, Try.func70, rfl, by decide⟩
theorem e_laws_szBigram (env : Nat → Contract) (x0 x1 : AV) (h : Heap) : denFn Try.prog env n_laws_szBigram [x0, x1] h = obind2 (aBox (AV.cells x0) h) fun v1 h2 => obind (aFieldAddr 0 v1) fun v3 => obind (aLoad false 1 v3 h2) fun v4 => obind (aLenK .str v4) fun v5 => obind (aBin .sub x1 v5) fun v6 => obind (aBin .lss v6 (iv 0)) fun v7 => condB v7 (some ((iv (-1)), h2)) (obind (aFieldAddr 1 v1) fun v8 => obind (aLoad false 1 v8 h2) fun v9 => obind (aLenK .str v9) fun v10 => obind (aBin .sub v6 v10) fun v11 => obind (aBin .lss v11 (iv 0)) fun v12 => condB v12 (some ((iv (-1)), h2)) (some (v11, h2))) := by kernel_rfl
theorem hb_laws_toBigram : HasBody Try.prog n_laws_toBigram := ⟨Try.f71, _, Try.func71, rfl, by decide⟩
theorem e_laws_toBigram (env : Nat → Contract) (x0 : AV) (h : Heap) : denFn Try.prog env n_laws_toBigram [x0] h = obind2 (aBox (AV.cells x0) h) fun v1 h2 => obind2 (aBox [(sv ⟨#[]⟩), (sv ⟨#[]⟩), (iv 0)] h2) fun v3 h4 => obind2 (aBox [(sv ⟨#[]⟩), (sv ⟨#[]⟩), (iv 0)] h4) fun v5 h6 => obind (aFieldAddr 0 v1) fun v7 => obind (aLoad false 1 v7 h6) fun v8 => obind (aFieldAddr 0 v5) fun v9 => obind (aStore 1 v9 v8 h6) fun h10 => obind (aFieldAddr 1 v1) fun v11 => obind (aLoad false 1 v11 h10) fun v12 => obind (aFieldAddr 1 v5) fun v13 => obind (aStore 1 v13 v12 h10) fun h14 => obind (aFieldAddr 2 v1) fun v15 => obind (aLoad false 1 v15 h14) fun v16 => obind (aFieldAddr 2 v5) fun v17 => obind (aStore 1 v17 v16 h14) fun h18 => obind (aLoad true 3 v5 h18) fun v19 => obind (aStore 3 v3 v19 h18) fun h20 => retL [.c true 3 v3] h20 := by kernel_rfl
theorem hb_laws_eqBigram : HasBody Try.prog n_laws_eqBigram := ⟨Try.f72, _, Try.func72, rfl, by decide⟩
theorem e_laws_eqBigram (env : Nat → Contract) (x0 x1 : AV) (h : Heap) : denFn Try.prog env n_laws_eqBigram [x0, x1] h = obind2 (aBox (AV.cells x0) h) fun v1 h2 => obind2 (aBox (AV.cells x1) h2) fun v3 h4 => obind (aFieldAddr 0 v1) fun v5 => obind (aLoad false 1 v5 h4) fun v6 => obind (aFieldAddr 0 v3) fun v7 => obind (aLoad false 1 v7 h4) fun v8 => obind (aCmp .neq .plain v6 v8) fun v9 => condB v9 (some ((bv false), h4)) (obind (aFieldAddr 1 v1) fun v10 => obind (aLoad false 1 v10 h4) fun v11 => obind (aFieldAddr 1 v3) fun v12 => obind (aLoad false 1 v12 h4) fun v13 => obind (aCmp .neq .plain v11 v13) fun v14 => condB v14 (some ((bv false), h4)) (obind (aFieldAddr 2 v1) fun v15 => obind (aLoad false 1 v15 h4) fun v16 => obind (aFieldAddr 2 v3) fun v17 => obind (aLoad false 1 v17 h4) fun v18 => obind (aCmp .neq .plain v16 v18) fun v19 => condB v19 (some ((bv false), h4)) (some ((bv true), h4)))) := by kernel_rfl
end Go.Proofs.Ytfladjnggkeiaaa
