/-
  The runs of the functions of this seat, in open form. Printed by a program of mine (gen.py).
-/
import Derived.Test.YtfladjnggkeiaaaProg
import Derived.Test.YtfladjnggkeiaaaEngTxt
namespace Go.Proofs.Ytfladjnggkeiaaa
open Go Go.Eng

@[simp] abbrev n_laws_FnExactSameModel : Nat := 3
@[simp] abbrev n_laws_FnExactTokensOf : Nat := 4
@[simp] abbrev n_laws_FnExactRootFraction : Nat := 5
@[simp] abbrev n_laws_FnExactLineOfPoint : Nat := 6
@[simp] abbrev n_laws_FnExactPowerFraction : Nat := 7
@[simp] abbrev n_laws_FnExactBoxOfItems : Nat := 8
@[simp] abbrev n_laws_szModel : Nat := 9
@[simp] abbrev n_spec_SameModel : Nat := 10
@[simp] abbrev n_laws_toModel : Nat := 11
@[simp] abbrev n_impl_SameModel : Nat := 12
@[simp] abbrev n_laws_eqModel : Nat := 13
@[simp] abbrev n_spec_TokensOf : Nat := 14
@[simp] abbrev n_impl_TokensOf : Nat := 15
@[simp] abbrev n_laws_eqStringS : Nat := 16
@[simp] abbrev n_laws_markStringS : Nat := 17
@[simp] abbrev n_laws_heldStringS : Nat := 18
@[simp] abbrev n_spec_RootFraction : Nat := 19
@[simp] abbrev n_laws_toFraction : Nat := 20
@[simp] abbrev n_impl_RootFraction : Nat := 21
@[simp] abbrev n_laws_eqFraction : Nat := 22
@[simp] abbrev n_laws_szLineS : Nat := 23
@[simp] abbrev n_spec_LineOfPoint : Nat := 24
@[simp] abbrev n_laws_toLineS : Nat := 25
@[simp] abbrev n_impl_LineOfPoint : Nat := 26
@[simp] abbrev n_laws_eqLineS : Nat := 27
@[simp] abbrev n_spec_PowerFraction : Nat := 28
@[simp] abbrev n_impl_PowerFraction : Nat := 29
@[simp] abbrev n_laws_szBoxS : Nat := 30
@[simp] abbrev n_spec_BoxOfItems : Nat := 31
@[simp] abbrev n_laws_toBoxS : Nat := 32
@[simp] abbrev n_laws_toInt64S : Nat := 33
@[simp] abbrev n_impl_BoxOfItems : Nat := 34
@[simp] abbrev n_laws_eqBox : Nat := 35
@[simp] abbrev n_laws_eqBoxS : Nat := 36
@[simp] abbrev n_laws_eqInt64S : Nat := 37
@[simp] abbrev n_laws_szBigramS : Nat := 38
@[simp] abbrev n_spec_l18Same : Nat := 39
@[simp] abbrev n_laws_toBigramS : Nat := 40
@[simp] abbrev n_slices_Equal_impl_Bigram_impl_Bigram : Nat := 41
@[simp] abbrev n_laws_eqBigramS : Nat := 42
@[simp] abbrev n_spec_l22Tokens : Nat := 43
@[simp] abbrev n_impl_isDigit : Nat := 44
@[simp] abbrev n_impl_isLetter : Nat := 45
@[simp] abbrev n_strings_IndexByte : Nat := 46
@[simp] abbrev n_laws_markText : Nat := 47
@[simp] abbrev n_spec_l22Ok : Nat := 48
@[simp] abbrev n_spec_l05Root : Nat := 49
@[simp] abbrev n_impl_ValidFraction : Nat := 50
@[simp] abbrev n_impl_rootOf : Nat := 51
@[simp] abbrev n_laws_szLine : Nat := 52
@[simp] abbrev n_spec_l00In : Nat := 53
@[simp] abbrev n_spec_l19Away : Nat := 54
@[simp] abbrev n_laws_toLine : Nat := 55
@[simp] abbrev n_impl_within : Nat := 56
@[simp] abbrev n_impl_isCoord : Nat := 57
@[simp] abbrev n_impl_beyond : Nat := 58
@[simp] abbrev n_laws_eqLine : Nat := 59
@[simp] abbrev n_spec_l22Turn : Nat := 60
@[simp] abbrev n_spec_TimesFractions : Nat := 61
@[simp] abbrev n_impl_reciprocal : Nat := 62
@[simp] abbrev n_impl_TimesFractions : Nat := 63
@[simp] abbrev n_spec_l19Boxes : Nat := 64
@[simp] abbrev n_spec_l02Join : Nat := 65
@[simp] abbrev n_laws_toBox : Nat := 66
@[simp] abbrev n_impl_isPage : Nat := 67
@[simp] abbrev n_impl_areIndices : Nat := 68
@[simp] abbrev n_impl_joinBoxes : Nat := 69
@[simp] abbrev n_laws_szBigram : Nat := 70
@[simp] abbrev n_laws_toBigram : Nat := 71
@[simp] abbrev n_laws_eqBigram : Nat := 72
@[simp] abbrev n_spec_l01Digit : Nat := 73
@[simp] abbrev n_spec_l22Sign : Nat := 74
@[simp] abbrev n_internal_stringslite_IndexByte : Nat := 75
@[simp] abbrev n_spec_l22Gcd : Nat := 76
@[simp] abbrev n_spec_l05Size : Nat := 77
@[simp] abbrev n_impl_gcd : Nat := 78
@[simp] abbrev n_math_bits_Len64 : Nat := 79
@[simp] abbrev n_laws_szInt64S : Nat := 80
@[simp] abbrev n_spec_l00Max : Nat := 81
@[simp] abbrev n_spec_l22Code : Nat := 82
@[simp] abbrev n_spec_l22Make : Nat := 83
@[simp] abbrev n_impl_reduced : Nat := 84
@[simp] abbrev n_spec_l02Box : Nat := 85
@[simp] abbrev n_spec_l00Min : Nat := 86
@[simp] abbrev n_slices_ContainsFunc_impl_Box_impl_Box : Nat := 87
@[simp] abbrev n_impl_isPage_1 : Nat := 88
@[simp] abbrev n_impl_ValidBox : Nat := 89
@[simp] abbrev n_slices_ContainsFunc_int64_int64 : Nat := 90
@[simp] abbrev n_impl_areIndices_1 : Nat := 91
@[simp] abbrev n_spec_l01Small : Nat := 92
@[simp] abbrev n_internal_bytealg_IndexByteString : Nat := 93
@[simp] abbrev n_impl_abs : Nat := 94
@[simp] abbrev n_slices_IndexFunc_impl_Box_impl_Box : Nat := 95
@[simp] abbrev n_slices_IndexFunc_int64_int64 : Nat := 96
theorem mixed : Try.prog.follows .mixedOrders = true := by kernel_rfl
abbrev atrr (c : Code) : Code := (codeR (codeR c))
abbrev atrrr (c : Code) : Code := (codeR (codeR (codeR c)))
abbrev atrrrr (c : Code) : Code := (codeR (codeR (codeR (codeR c))))
abbrev atrlrll (c : Code) : Code := (codeL (codeL (codeR (codeL (codeR c)))))
abbrev atrrlrll (c : Code) : Code := (codeL (codeL (codeR (codeL (codeR (codeR c))))))
abbrev atrrrlll (c : Code) : Code := (codeL (codeL (codeL (codeR (codeR (codeR c))))))
abbrev atrrrlrll (c : Code) : Code := (codeL (codeL (codeR (codeL (codeR (codeR (codeR c)))))))
abbrev atrrlrllrlrr (c : Code) : Code := (codeR (codeR (codeL (codeR (codeL (codeL (codeR (codeL (codeR (codeR c))))))))))
abbrev atrrrlrllrlrr (c : Code) : Code := (codeR (codeR (codeL (codeR (codeL (codeL (codeR (codeL (codeR (codeR (codeR c)))))))))))
abbrev atrrlrllrlrlrlll (c : Code) : Code := (codeL (codeL (codeL (codeR (codeL (codeR (codeL (codeR (codeL (codeL (codeR (codeL (codeR (codeR c))))))))))))))
abbrev atrrrlrllrlrlrlrlll (c : Code) : Code := (codeL (codeL (codeL (codeR (codeL (codeR (codeL (codeR (codeL (codeR (codeL (codeL (codeR (codeL (codeR (codeR (codeR c)))))))))))))))))
theorem hb_laws_FnExactTokensOf : HasBody Try.prog n_laws_FnExactTokensOf := ⟨Try.f4, _, Try.func4, rfl, by decide⟩
theorem e_laws_FnExactTokensOf (env : Nat → Contract) (x0 : AV) (h : Heap) : denFn Try.prog env n_laws_FnExactTokensOf [x0] h = obind (aLenK .str x0) fun v1 => obind (aBin .gtr v1 (iv 1048576)) fun v2 => condB v2 (some ((bv true), h)) (obind2 (aCall (env n_spec_TokensOf) [x0] h) fun v3 h4 => obind (aExtract v3 0) fun v5 => obind (aExtract v3 1) fun v6 => obind2 (aCall (env n_impl_TokensOf) [x0] h4) fun v7 h8 => obind (aExtract v7 0) fun v9 => obind (aExtract v7 1) fun v10 => obind2 (aCall (env n_laws_eqStringS) [v9, v5] h8) fun v11 h12 => obind (aUn .not v11) fun v13 => obind2 (guardB v13 false (obind (aCmp .neq .plain v10 v6) fun v14 => some (v14, h12)) (some (und, h12))) fun v15 h16 => obind (aPick v13 (bv true) v15) fun v17 => condB v17 (some ((bv false), h16)) (obind2 (aCall (env n_laws_markStringS) [v9, (iv 1)] h16) fun v18 h19 => obind2 (aCall (env n_laws_heldStringS) [v9, (iv 1)] h19) fun v20 h21 => obind (aBin .lss v20 (iv 0)) fun v22 => condB v22 (some ((bv false), h21)) (obind (aCmp .neq .plain v20 v18) fun v23 => condB v23 (some ((bv false), h21)) (obind2 (aCall (env n_impl_TokensOf) [x0] h21) fun v24 h25 => obind (aExtract v24 0) fun v26 => obind (aExtract v24 1) fun v27 => obind2 (aCall (env n_laws_eqStringS) [v26, v5] h25) fun v28 h29 => obind (aUn .not v28) fun v30 => obind2 (guardB v30 false (obind (aCmp .neq .plain v27 v6) fun v31 => some (v31, h29)) (some (und, h29))) fun v32 h33 => obind (aPick v30 (bv true) v32) fun v34 => condB v34 (some ((bv false), h33)) (obind2 (aCall (env n_laws_heldStringS) [v9, (iv 1)] h33) fun v35 h36 => obind (aBin .lss v35 (iv 0)) fun v37 => condB v37 (some ((bv false), h36)) (obind (aCmp .neq .plain v35 v18) fun v38 => condB v38 (some ((bv false), h36)) (some ((bv true), h36)))))))) := by kernel_rfl
theorem hb_spec_TokensOf : HasBody Try.prog n_spec_TokensOf := ⟨Try.f14, _, Try.func14, rfl, by decide⟩
theorem e_spec_TokensOf (env : Nat → Contract) (x0 : AV) (h : Heap) : denFn Try.prog env n_spec_TokensOf [x0] h = obind (aLenK .str x0) fun v1 => obind (aBin .gtr v1 (iv 200)) fun v2 => condB v2 (some ((.tup [nilS, (iv 5)]), h)) (obind2 (aCall (env n_spec_l22Tokens) [x0] h) fun v3 h4 => obind (aExtract v3 0) fun v5 => obind (aExtract v3 1) fun v6 => obind (aUn .not v6) fun v7 => condB v7 (some ((.tup [nilS, (iv 7)]), h4)) (some ((.tup [v5, (iv 0)]), h4))) := by kernel_rfl
noncomputable abbrev c_impl_TokensOf : Code := (Try.f15.body).getD .skip
noncomputable abbrev nm_impl_TokensOf : List Bool := namedOf Try.f15
theorem hb_impl_TokensOf : HasBody Try.prog n_impl_TokensOf := ⟨Try.f15, _, Try.func15, rfl, by decide⟩
abbrev hm0_impl_TokensOf : List Bool := [true, true, false, false, true, true, false, false, true, true, true, false, false, false, false, false, false, false, false, false, false, false, false, false, false, false, false, false, false, false, false, false, false, false, false, false, false, false, false, false, false, false, false, false, false, false, false, false, false, false, false, false, true]
abbrev xm0_impl_TokensOf : List Bool := [true, true, true, true, true, true, true, true, true, true, true, false, false, false, false, false, false, false, false, false, false, false, false, false, false, false, false, false, false, false, false, false, false, false, false, false, false, false, false, false, false, false, false, false, false, false, false, false, false, false, false, false, true]
noncomputable def lb0_impl_TokensOf (env : Nat → Contract) : TM → Heap → Option Res := fun tm h => denC Try.prog env nm_impl_TokensOf (atrrrlrll c_impl_TokensOf) Res tm h fun e tm h => some (e, tm, h)
noncomputable def lk0_impl_TokensOf (env : Nat → Contract) : AX → TM → Heap → Option (AV × Heap) := (kBlock 0 (kSeq Try.prog env nm_impl_TokensOf (atrrrr c_impl_TokensOf) _ (kRet Try.prog Try.f15.results.toList)))
abbrev hm1_impl_TokensOf : List Bool := [true, true, true, true, true, true, true, true, true, true, true, true, true, true, true, true, true, true, true, true, true, true, true, false, false, false, false, false, false, false, false, false, false, false, false, true, true, true, true, true, true, true, true, true, true, true, true, true, true, true, true, true, true]
abbrev xm1_impl_TokensOf : List Bool := [true, true, true, true, true, true, true, true, true, true, true, true, true, true, true, true, true, true, true, true, true, true, true, false, false, false, false, false, false, false, false, false, false, false, false, true, true, true, true, true, true, true, true, true, true, true, true, true, true, true, true, true, true]
noncomputable def lb1_impl_TokensOf (env : Nat → Contract) : TM → Heap → Option Res := fun tm h => denC Try.prog env nm_impl_TokensOf (atrrrlrllrlrlrlrlll c_impl_TokensOf) Res tm h fun e tm h => some (e, tm, h)
noncomputable def lk1_impl_TokensOf (env : Nat → Contract) : AX → TM → Heap → Option (Res) := (kBlock 3 (kBlock 2 (kSeq Try.prog env nm_impl_TokensOf (atrrrlrllrlrr c_impl_TokensOf) _ (kBlock 1 (fun e tm h => some (e, tm, h))))))
theorem e_impl_TokensOf (env : Nat → Contract) (x0 : AV) (h : Heap) : denFn Try.prog env n_impl_TokensOf [x0] h = obind (aLenK .str x0) fun v1 => obind (aBin .gtr v1 (iv 200)) fun v2 => condB v2 (some ((.tup [nilS, (iv 5)]), h)) (obind (loopP hm0_impl_TokensOf xm0_impl_TokensOf (lb0_impl_TokensOf env) [x0, und, .top, .top, nilS, (iv 0), .top, .top, x0, v1, v2, .top, .top, .top, .top, .top, .top, .top, .top, .top, .top, .top, .top, .top, .top, .top, .top, .top, .top, .top, .top, .top, .top, .top, .top, .top, .top, .top, .top, .top, .top, .top, .top, .top, .top, .top, .top, .top, .top, .top, .top, .top, und] h) fun r => lk0_impl_TokensOf env r.1 r.2.1 r.2.2) := by kernel_rfl
theorem e_lb0_impl_TokensOf (env : Nat → Contract) (y0 y1 y4 y5 y8 y9 y10 y52 : AV) (h : Heap) : lb0_impl_TokensOf env [y0, y1, .top, .top, y4, y5, .top, .top, y8, y9, y10, .top, .top, .top, .top, .top, .top, .top, .top, .top, .top, .top, .top, .top, .top, .top, .top, .top, .top, .top, .top, .top, .top, .top, .top, .top, .top, .top, .top, .top, .top, .top, .top, .top, .top, .top, .top, .top, .top, .top, .top, .top, y52] h = obind (aLenK .str y0) fun v3 => obind (aBin .lss y5 v3) fun v4 => condB v4 (obind (aBin .add y5 (iv 1)) fun v5 => obind (aIndexStr y0 y5) fun v6 => obind2 (aCall (env n_impl_isDigit) [v6] h) fun v7 h8 => condB v7 (obind (loopP hm1_impl_TokensOf xm1_impl_TokensOf (lb1_impl_TokensOf env) [y0, y1, .top, .top, y4, y5, v5, v6, y8, y9, y10, y5, y0, v3, v4, y5, v5, y0, y5, v6, v7, v6, v7, .top, .top, .top, .top, .top, .top, .top, .top, .top, .top, .top, .top, .top, .top, .top, .top, .top, .top, .top, .top, .top, .top, .top, .top, .top, .top, .top, .top, .top, y52] h8) fun r => lk1_impl_TokensOf env r.1 r.2.1 r.2.2) (obind2 (aCall (env n_impl_isLetter) [v6] h8) fun v9 h10 => obind (aUn .not v9) fun v11 => obind2 (guardB v11 true (obind2 (aCall (env n_strings_IndexByte) [(sv ⟨#[43, 45, 42, 47, 94, 40, 41, 82]⟩), v6] h10) fun v12 h13 => obind (aBin .lss v12 (iv 0)) fun v14 => some (v14, h13)) (some (und, h10))) fun v15 h16 => obind (aPick v11 v15 (bv false)) fun v17 => condB v17 (some (.ret, [y0, y1, nilS, (iv 7), y4, y5, v5, v6, y8, y9, y10, y5, y0, v3, v4, y5, v5, y0, y5, v6, v7, v6, v7, .top, .top, .top, .top, .top, .top, .top, .top, .top, .top, .top, .top, v17, v6, v9, v11, v11, .top, .top, v15, v17, .top, .top, .top, .top, .top, .top, .top, .top, y52], h16)) (obind (aSliceStr y0 (some y5) (some v5)) fun v18 => obind2 (aBuildSlice [(sv ⟨#[]⟩)] 1 [(0, v18)] h16) fun v19 h20 => obind2 (aAppend false 1 16 y4 v19 h20) fun v21 h22 => some (.normal, [y0, y1, .top, .top, v21, v5, v5, v6, y8, y9, y10, y5, y0, v3, v4, y5, v5, y0, y5, v6, v7, v6, v7, .top, .top, .top, .top, .top, .top, .top, .top, .top, .top, .top, .top, v17, v6, v9, v11, v11, .top, .top, v15, v17, y4, y0, y5, v5, v18, v19, v21, v5, y52], h22)))) (some (.exit 0, [y0, y1, .top, .top, y4, y5, .top, .top, y8, y9, y10, y5, y0, v3, v4, .top, .top, .top, .top, .top, .top, .top, .top, .top, .top, .top, .top, .top, .top, .top, .top, .top, .top, .top, .top, .top, .top, .top, .top, .top, .top, .top, .top, .top, .top, .top, .top, .top, .top, .top, .top, .top, y52], h)) := by kernel_rfl
theorem e_lk0x0_impl_TokensOf (env : Nat → Contract) (z0 z1 z2 z3 z4 z5 z6 z7 z8 z9 z10 z52 : AV) (h : Heap) : lk0_impl_TokensOf env (.exit 0) [z0, z1, z2, z3, z4, z5, z6, z7, z8, z9, z10, .top, .top, .top, .top, .top, .top, .top, .top, .top, .top, .top, .top, .top, .top, .top, .top, .top, .top, .top, .top, .top, .top, .top, .top, .top, .top, .top, .top, .top, .top, .top, .top, .top, .top, .top, .top, .top, .top, .top, .top, .top, z52] h = some ((.tup [z4, (iv 0)]), h) := by kernel_rfl
theorem e_lk0r_impl_TokensOf (env : Nat → Contract) (z0 z1 z2 z3 z4 z5 z6 z7 z8 z9 z10 z52 : AV) (h : Heap) : lk0_impl_TokensOf env .ret [z0, z1, z2, z3, z4, z5, z6, z7, z8, z9, z10, .top, .top, .top, .top, .top, .top, .top, .top, .top, .top, .top, .top, .top, .top, .top, .top, .top, .top, .top, .top, .top, .top, .top, .top, .top, .top, .top, .top, .top, .top, .top, .top, .top, .top, .top, .top, .top, .top, .top, .top, .top, z52] h = some ((.tup [z2, z3]), h) := by kernel_rfl
theorem e_lb1_impl_TokensOf (env : Nat → Contract) (y0 y1 y2 y3 y4 y5 y6 y7 y8 y9 y10 y11 y12 y13 y14 y15 y16 y17 y18 y19 y20 y21 y22 y35 y36 y37 y38 y39 y40 y41 y42 y43 y44 y45 y46 y47 y48 y49 y50 y51 y52 : AV) (h : Heap) : lb1_impl_TokensOf env [y0, y1, y2, y3, y4, y5, y6, y7, y8, y9, y10, y11, y12, y13, y14, y15, y16, y17, y18, y19, y20, y21, y22, .top, .top, .top, .top, .top, .top, .top, .top, .top, .top, .top, .top, y35, y36, y37, y38, y39, y40, y41, y42, y43, y44, y45, y46, y47, y48, y49, y50, y51, y52] h = obind (aLenK .str y0) fun v23 => obind (aBin .lss y6 v23) fun v24 => obind2 (guardB v24 true (obind (aIndexStr y0 y6) fun v25 => obind2 (aCall (env n_impl_isDigit) [v25] h) fun v26 h27 => some (v26, h27)) (some (und, h))) fun v28 h29 => obind (aPick v24 v28 (bv false)) fun v30 => condB v30 (obind (aBin .add y6 (iv 1)) fun v31 => some (.normal, [y0, y1, y2, y3, y4, y5, v31, y7, y8, y9, y10, y11, y12, y13, y14, y15, y16, y17, y18, y19, y20, y21, y22, y6, y0, v23, v24, v24, .top, .top, .top, v28, v30, y6, v31, y35, y36, y37, y38, y39, y40, y41, y42, y43, y44, y45, y46, y47, y48, y49, y50, y51, y52], h29)) (some (.exit 3, [y0, y1, y2, y3, y4, y5, y6, y7, y8, y9, y10, y11, y12, y13, y14, y15, y16, y17, y18, y19, y20, y21, y22, y6, y0, v23, v24, v24, .top, .top, .top, v28, v30, .top, .top, y35, y36, y37, y38, y39, y40, y41, y42, y43, y44, y45, y46, y47, y48, y49, y50, y51, y52], h29)) := by kernel_rfl
theorem e_lk1x3_impl_TokensOf (env : Nat → Contract) (z0 z1 z2 z3 z4 z5 z6 z7 z8 z9 z10 z11 z12 z13 z14 z15 z16 z17 z18 z19 z20 z21 z22 z35 z36 z37 z38 z39 z40 z41 z42 z43 z44 z45 z46 z47 z48 z49 z50 z51 z52 : AV) (h : Heap) : lk1_impl_TokensOf env (.exit 3) [z0, z1, z2, z3, z4, z5, z6, z7, z8, z9, z10, z11, z12, z13, z14, z15, z16, z17, z18, z19, z20, z21, z22, .top, .top, .top, .top, .top, .top, .top, .top, .top, .top, .top, .top, z35, z36, z37, z38, z39, z40, z41, z42, z43, z44, z45, z46, z47, z48, z49, z50, z51, z52] h = obind (aSliceStr z0 (some z5) (some z6)) fun v32 => obind2 (aBuildSlice [(sv ⟨#[]⟩)] 1 [(0, v32)] h) fun v33 h34 => obind2 (aAppend false 1 16 z4 v33 h34) fun v35 h36 => some (.normal, [z0, z1, z2, z3, v35, z6, z6, z7, z8, z9, z10, z11, z12, z13, z14, z15, z16, z17, z18, z19, z20, z21, z22, .top, .top, .top, .top, .top, .top, .top, .top, .top, .top, .top, .top, z35, z36, z37, z38, z39, z40, z41, z42, z43, z4, z0, z5, z6, v32, v33, v35, z6, z52], h36) := by kernel_rfl
noncomputable abbrev c_laws_eqStringS : Code := (Try.f16.body).getD .skip
noncomputable abbrev nm_laws_eqStringS : List Bool := namedOf Try.f16
theorem hb_laws_eqStringS : HasBody Try.prog n_laws_eqStringS := ⟨Try.f16, _, Try.func16, rfl, by decide⟩
abbrev hm0_laws_eqStringS : List Bool := [true, true, true, true, false, true, true, true, true, true, true, false, false, false, false, false, false, false, false, false, false, false, false, false, false, false]
abbrev xm0_laws_eqStringS : List Bool := [true, true, true, true, true, true, true, true, true, true, true, false, false, false, false, false, false, false, false, false, false, false, false, false, false, false]
noncomputable def lb0_laws_eqStringS (env : Nat → Contract) : TM → Heap → Option Res := fun tm h => denC Try.prog env nm_laws_eqStringS (atrrlrll c_laws_eqStringS) Res tm h fun e tm h => some (e, tm, h)
noncomputable def lk0_laws_eqStringS (env : Nat → Contract) : AX → TM → Heap → Option (AV × Heap) := (kBlock 0 (kSeq Try.prog env nm_laws_eqStringS (atrrr c_laws_eqStringS) _ (kRet Try.prog Try.f16.results.toList)))
theorem e_laws_eqStringS (env : Nat → Contract) (x0 x1 : AV) (h : Heap) : denFn Try.prog env n_laws_eqStringS [x0, x1] h = obind (aLenK .slice x0) fun v1 => obind (aLenK .slice x1) fun v2 => obind (aCmp .neq .plain v1 v2) fun v3 => condB v3 (some ((bv false), h)) (obind (loopP hm0_laws_eqStringS xm0_laws_eqStringS (lb0_laws_eqStringS env) [x0, x1, und, und, .top, (iv 0), x0, v1, x1, v2, v3, .top, .top, .top, .top, .top, .top, .top, .top, .top, .top, .top, .top, .top, .top, .top] h) fun r => lk0_laws_eqStringS env r.1 r.2.1 r.2.2) := by kernel_rfl
theorem e_lb0_laws_eqStringS (env : Nat → Contract) (y0 y1 y2 y3 y5 y6 y7 y8 y9 y10 : AV) (h : Heap) : lb0_laws_eqStringS env [y0, y1, y2, y3, .top, y5, y6, y7, y8, y9, y10, .top, .top, .top, .top, .top, .top, .top, .top, .top, .top, .top, .top, .top, .top, .top] h = obind (aLenK .slice y0) fun v4 => obind (aBin .lss y5 v4) fun v5 => condB v5 (obind (aIndexAddr 1 y0 y5 h) fun v6 => obind (aLoad false 1 v6 h) fun v7 => obind (aIndexAddr 1 y1 y5 h) fun v8 => obind (aLoad false 1 v8 h) fun v9 => obind (aCmp .neq .plain v7 v9) fun v10 => condB v10 (some (.ret, [y0, y1, y2, y3, (bv false), y5, y6, y7, y8, y9, y10, y5, y0, v4, v5, .top, .top, y0, y5, v6, v7, y1, y5, v8, v9, v10], h)) (obind (aBin .add y5 (iv 1)) fun v11 => some (.normal, [y0, y1, y2, y3, .top, v11, y6, y7, y8, y9, y10, y5, y0, v4, v5, y5, v11, y0, y5, v6, v7, y1, y5, v8, v9, v10], h))) (some (.exit 0, [y0, y1, y2, y3, .top, y5, y6, y7, y8, y9, y10, y5, y0, v4, v5, .top, .top, .top, .top, .top, .top, .top, .top, .top, .top, .top], h)) := by kernel_rfl
theorem e_lk0x0_laws_eqStringS (env : Nat → Contract) (z0 z1 z2 z3 z4 z5 z6 z7 z8 z9 z10 : AV) (h : Heap) : lk0_laws_eqStringS env (.exit 0) [z0, z1, z2, z3, z4, z5, z6, z7, z8, z9, z10, .top, .top, .top, .top, .top, .top, .top, .top, .top, .top, .top, .top, .top, .top, .top] h = some ((bv true), h) := by kernel_rfl
theorem e_lk0r_laws_eqStringS (env : Nat → Contract) (z0 z1 z2 z3 z4 z5 z6 z7 z8 z9 z10 : AV) (h : Heap) : lk0_laws_eqStringS env .ret [z0, z1, z2, z3, z4, z5, z6, z7, z8, z9, z10, .top, .top, .top, .top, .top, .top, .top, .top, .top, .top, .top, .top, .top, .top, .top] h = some (z4, h) := by kernel_rfl
noncomputable abbrev c_laws_markStringS : Code := (Try.f17.body).getD .skip
noncomputable abbrev nm_laws_markStringS : List Bool := namedOf Try.f17
theorem hb_laws_markStringS : HasBody Try.prog n_laws_markStringS := ⟨Try.f17, _, Try.func17, rfl, by decide⟩
abbrev hm0_laws_markStringS : List Bool := [true, true, true, true, true, true, false, false, false, false, false, false, false, false, false, false, false, false, false, true]
abbrev xm0_laws_markStringS : List Bool := [true, true, true, true, true, true, false, false, false, false, false, false, false, false, false, false, false, false, false, true]
noncomputable def lb0_laws_markStringS (env : Nat → Contract) : TM → Heap → Option Res := fun tm h => denC Try.prog env nm_laws_markStringS (atrlrll c_laws_markStringS) Res tm h fun e tm h => some (e, tm, h)
noncomputable def lk0_laws_markStringS (env : Nat → Contract) : AX → TM → Heap → Option (AV × Heap) := (kBlock 0 (kSeq Try.prog env nm_laws_markStringS (atrr c_laws_markStringS) _ (kRet Try.prog Try.f17.results.toList)))
theorem e_laws_markStringS (env : Nat → Contract) (x0 x1 : AV) (h : Heap) : denFn Try.prog env n_laws_markStringS [x0, x1] h = obind (loopP hm0_laws_markStringS xm0_laws_markStringS (lb0_laws_markStringS env) [x0, x1, und, und, (iv 0), (iv 0), .top, .top, .top, .top, .top, .top, .top, .top, .top, .top, .top, .top, .top, und] h) fun r => lk0_laws_markStringS env r.1 r.2.1 r.2.2 := by kernel_rfl
theorem e_lb0_laws_markStringS (env : Nat → Contract) (y0 y1 y2 y3 y4 y5 y19 : AV) (h : Heap) : lb0_laws_markStringS env [y0, y1, y2, y3, y4, y5, .top, .top, .top, .top, .top, .top, .top, .top, .top, .top, .top, .top, .top, y19] h = obind (aLenK .slice y0) fun v1 => obind (aBin .lss y5 v1) fun v2 => condB v2 (obind2 (aCall (env n_laws_markText) [y1] h) fun v3 h4 => obind (aIndexAddr 1 y0 y5 h4) fun v5 => obind (aStore 1 v5 v3 h4) fun h6 => obind (aBin .add y1 (iv 1)) fun v7 => obind (aBin .add y5 (iv 1)) fun v8 => some (.normal, [y0, v7, y2, y3, y4, v8, y5, y0, v1, v2, y5, v8, y0, y5, y1, v3, v5, y1, v7, y19], h6)) (some (.exit 0, [y0, y1, y2, y3, y4, y5, y5, y0, v1, v2, .top, .top, .top, .top, .top, .top, .top, .top, .top, y19], h)) := by kernel_rfl
theorem e_lk0x0_laws_markStringS (env : Nat → Contract) (z0 z1 z2 z3 z4 z5 z19 : AV) (h : Heap) : lk0_laws_markStringS env (.exit 0) [z0, z1, z2, z3, z4, z5, .top, .top, .top, .top, .top, .top, .top, .top, .top, .top, .top, .top, .top, z19] h = some (z1, h) := by kernel_rfl
noncomputable abbrev c_laws_heldStringS : Code := (Try.f18.body).getD .skip
noncomputable abbrev nm_laws_heldStringS : List Bool := namedOf Try.f18
theorem hb_laws_heldStringS : HasBody Try.prog n_laws_heldStringS := ⟨Try.f18, _, Try.func18, rfl, by decide⟩
abbrev hm0_laws_heldStringS : List Bool := [true, true, true, true, false, true, false, false, false, false, false, false, false, false, false, false, false, false, false, false, false, true]
abbrev xm0_laws_heldStringS : List Bool := [true, true, true, true, true, true, false, false, false, false, false, false, false, false, false, false, false, false, false, false, false, true]
noncomputable def lb0_laws_heldStringS (env : Nat → Contract) : TM → Heap → Option Res := fun tm h => denC Try.prog env nm_laws_heldStringS (atrlrll c_laws_heldStringS) Res tm h fun e tm h => some (e, tm, h)
noncomputable def lk0_laws_heldStringS (env : Nat → Contract) : AX → TM → Heap → Option (AV × Heap) := (kBlock 0 (kSeq Try.prog env nm_laws_heldStringS (atrr c_laws_heldStringS) _ (kRet Try.prog Try.f18.results.toList)))
theorem e_laws_heldStringS (env : Nat → Contract) (x0 x1 : AV) (h : Heap) : denFn Try.prog env n_laws_heldStringS [x0, x1] h = obind (loopP hm0_laws_heldStringS xm0_laws_heldStringS (lb0_laws_heldStringS env) [x0, x1, und, und, .top, (iv 0), .top, .top, .top, .top, .top, .top, .top, .top, .top, .top, .top, .top, .top, .top, .top, und] h) fun r => lk0_laws_heldStringS env r.1 r.2.1 r.2.2 := by kernel_rfl
theorem e_lb0_laws_heldStringS (env : Nat → Contract) (y0 y1 y2 y3 y5 y21 : AV) (h : Heap) : lb0_laws_heldStringS env [y0, y1, y2, y3, .top, y5, .top, .top, .top, .top, .top, .top, .top, .top, .top, .top, .top, .top, .top, .top, .top, y21] h = obind (aLenK .slice y0) fun v1 => obind (aBin .lss y5 v1) fun v2 => condB v2 (obind (aIndexAddr 1 y0 y5 h) fun v3 => obind (aLoad false 1 v3 h) fun v4 => obind2 (aCallQ (env n_laws_markText) [y1] h) fun v5 h6 => obind (aCmp .neq .plain v4 v5) fun v7 => condB v7 (some (.ret, [y0, y1, y2, y3, (iv (-1)), y5, y5, y0, v1, v2, .top, .top, y0, y5, v3, v4, y1, v5, v7, .top, .top, y21], h6)) (obind (aBin .add y1 (iv 1)) fun v8 => obind (aBin .add y5 (iv 1)) fun v9 => some (.normal, [y0, v8, y2, y3, .top, v9, y5, y0, v1, v2, y5, v9, y0, y5, v3, v4, y1, v5, v7, y1, v8, y21], h6))) (some (.exit 0, [y0, y1, y2, y3, .top, y5, y5, y0, v1, v2, .top, .top, .top, .top, .top, .top, .top, .top, .top, .top, .top, y21], h)) := by kernel_rfl
theorem e_lk0x0_laws_heldStringS (env : Nat → Contract) (z0 z1 z2 z3 z4 z5 z21 : AV) (h : Heap) : lk0_laws_heldStringS env (.exit 0) [z0, z1, z2, z3, z4, z5, .top, .top, .top, .top, .top, .top, .top, .top, .top, .top, .top, .top, .top, .top, .top, z21] h = some (z1, h) := by kernel_rfl
theorem e_lk0r_laws_heldStringS (env : Nat → Contract) (z0 z1 z2 z3 z4 z5 z21 : AV) (h : Heap) : lk0_laws_heldStringS env .ret [z0, z1, z2, z3, z4, z5, .top, .top, .top, .top, .top, .top, .top, .top, .top, .top, .top, .top, .top, .top, .top, z21] h = some (z4, h) := by kernel_rfl
noncomputable abbrev c_spec_l22Tokens : Code := (Try.f43.body).getD .skip
noncomputable abbrev nm_spec_l22Tokens : List Bool := namedOf Try.f43
theorem hb_spec_l22Tokens : HasBody Try.prog n_spec_l22Tokens := ⟨Try.f43, _, Try.func43, rfl, by decide⟩
abbrev hm0_spec_l22Tokens : List Bool := [true, true, false, false, true, true, false, true, false, false, false, false, false, false, false, false, false, false, false, false, false, false, false, false, false, false, false, false, false, false, false, false, false, false, false, false, false, false, false, false, false, false, false, true]
abbrev xm0_spec_l22Tokens : List Bool := [true, true, true, true, true, true, true, true, false, false, false, false, false, false, false, false, false, false, false, false, false, false, false, false, false, false, false, false, false, false, false, false, false, false, false, false, false, false, false, false, false, false, false, true]
noncomputable def lb0_spec_l22Tokens (env : Nat → Contract) : TM → Heap → Option Res := fun tm h => denC Try.prog env nm_spec_l22Tokens (atrrlrll c_spec_l22Tokens) Res tm h fun e tm h => some (e, tm, h)
noncomputable def lk0_spec_l22Tokens (env : Nat → Contract) : AX → TM → Heap → Option (AV × Heap) := (kBlock 0 (kSeq Try.prog env nm_spec_l22Tokens (atrrr c_spec_l22Tokens) _ (kRet Try.prog Try.f43.results.toList)))
abbrev hm1_spec_l22Tokens : List Bool := [true, true, true, true, true, true, true, true, true, true, true, true, true, true, true, true, true, true, false, false, false, false, false, false, false, false, false, false, false, false, true, true, true, true, true, true, true, true, true, true, true, true, true, true]
abbrev xm1_spec_l22Tokens : List Bool := [true, true, true, true, true, true, true, true, true, true, true, true, true, true, true, true, true, true, false, false, false, false, false, false, false, false, false, false, false, false, true, true, true, true, true, true, true, true, true, true, true, true, true, true]
noncomputable def lb1_spec_l22Tokens (env : Nat → Contract) : TM → Heap → Option Res := fun tm h => denC Try.prog env nm_spec_l22Tokens (atrrlrllrlrlrlll c_spec_l22Tokens) Res tm h fun e tm h => some (e, tm, h)
noncomputable def lk1_spec_l22Tokens (env : Nat → Contract) : AX → TM → Heap → Option (Res) := (kBlock 2 (kSeq Try.prog env nm_spec_l22Tokens (atrrlrllrlrr c_spec_l22Tokens) _ (kBlock 1 (fun e tm h => some (e, tm, h)))))
theorem e_spec_l22Tokens (env : Nat → Contract) (x0 : AV) (h : Heap) : denFn Try.prog env n_spec_l22Tokens [x0] h = obind2 (aBuildSlice [(sv ⟨#[]⟩)] 0 [] h) fun v1 h2 => obind (loopP hm0_spec_l22Tokens xm0_spec_l22Tokens (lb0_spec_l22Tokens env) [x0, und, .top, .top, v1, (iv 0), .top, v1, .top, .top, .top, .top, .top, .top, .top, .top, .top, .top, .top, .top, .top, .top, .top, .top, .top, .top, .top, .top, .top, .top, .top, .top, .top, .top, .top, .top, .top, .top, .top, .top, .top, .top, .top, und] h2) fun r => lk0_spec_l22Tokens env r.1 r.2.1 r.2.2 := by kernel_rfl
theorem e_lb0_spec_l22Tokens (env : Nat → Contract) (y0 y1 y4 y5 y7 y43 : AV) (h : Heap) : lb0_spec_l22Tokens env [y0, y1, .top, .top, y4, y5, .top, y7, .top, .top, .top, .top, .top, .top, .top, .top, .top, .top, .top, .top, .top, .top, .top, .top, .top, .top, .top, .top, .top, .top, .top, .top, .top, .top, .top, .top, .top, .top, .top, .top, .top, .top, .top, y43] h = obind (aLenK .str y0) fun v3 => obind (aBin .lss y5 v3) fun v4 => condB v4 (obind (aBin .add y5 (iv 1)) fun v5 => obind (aIndexStr y0 y5) fun v6 => obind2 (aCall (env n_spec_l01Digit) [v6] h) fun v7 h8 => condB v7 (obind (loopP hm1_spec_l22Tokens xm1_spec_l22Tokens (lb1_spec_l22Tokens env) [y0, y1, .top, .top, y4, y5, v5, y7, y5, y0, v3, v4, y5, v5, y0, y5, v6, v7, .top, .top, .top, .top, .top, .top, .top, .top, .top, .top, .top, .top, .top, .top, .top, .top, .top, .top, .top, .top, .top, .top, .top, .top, .top, y43] h8) fun r => lk1_spec_l22Tokens env r.1 r.2.1 r.2.2) (obind (aIndexStr y0 y5) fun v9 => obind2 (aCall (env n_spec_l22Sign) [v9] h8) fun v10 h11 => obind (aUn .not v10) fun v12 => condB v12 (some (.ret, [y0, y1, nilS, (bv false), y4, y5, v5, y7, y5, y0, v3, v4, y5, v5, y0, y5, v6, v7, .top, .top, .top, .top, .top, .top, .top, .top, .top, .top, .top, .top, y0, y5, v9, v10, v12, .top, .top, .top, .top, .top, .top, .top, .top, y43], h11)) (obind (aSliceStr y0 (some y5) (some v5)) fun v13 => obind2 (aBuildSlice [(sv ⟨#[]⟩)] 1 [(0, v13)] h11) fun v14 h15 => obind2 (aAppend false 1 16 y4 v14 h15) fun v16 h17 => some (.normal, [y0, y1, .top, .top, v16, v5, v5, y7, y5, y0, v3, v4, y5, v5, y0, y5, v6, v7, .top, .top, .top, .top, .top, .top, .top, .top, .top, .top, .top, .top, y0, y5, v9, v10, v12, y4, y0, y5, v5, v13, v14, v16, v5, y43], h17)))) (some (.exit 0, [y0, y1, .top, .top, y4, y5, .top, y7, y5, y0, v3, v4, .top, .top, .top, .top, .top, .top, .top, .top, .top, .top, .top, .top, .top, .top, .top, .top, .top, .top, .top, .top, .top, .top, .top, .top, .top, .top, .top, .top, .top, .top, .top, y43], h)) := by kernel_rfl
theorem e_lk0x0_spec_l22Tokens (env : Nat → Contract) (z0 z1 z2 z3 z4 z5 z6 z7 z43 : AV) (h : Heap) : lk0_spec_l22Tokens env (.exit 0) [z0, z1, z2, z3, z4, z5, z6, z7, .top, .top, .top, .top, .top, .top, .top, .top, .top, .top, .top, .top, .top, .top, .top, .top, .top, .top, .top, .top, .top, .top, .top, .top, .top, .top, .top, .top, .top, .top, .top, .top, .top, .top, .top, z43] h = some ((.tup [z4, (bv true)]), h) := by kernel_rfl
theorem e_lk0r_spec_l22Tokens (env : Nat → Contract) (z0 z1 z2 z3 z4 z5 z6 z7 z43 : AV) (h : Heap) : lk0_spec_l22Tokens env .ret [z0, z1, z2, z3, z4, z5, z6, z7, .top, .top, .top, .top, .top, .top, .top, .top, .top, .top, .top, .top, .top, .top, .top, .top, .top, .top, .top, .top, .top, .top, .top, .top, .top, .top, .top, .top, .top, .top, .top, .top, .top, .top, .top, z43] h = some ((.tup [z2, z3]), h) := by kernel_rfl
theorem e_lb1_spec_l22Tokens (env : Nat → Contract) (y0 y1 y2 y3 y4 y5 y6 y7 y8 y9 y10 y11 y12 y13 y14 y15 y16 y17 y30 y31 y32 y33 y34 y35 y36 y37 y38 y39 y40 y41 y42 y43 : AV) (h : Heap) : lb1_spec_l22Tokens env [y0, y1, y2, y3, y4, y5, y6, y7, y8, y9, y10, y11, y12, y13, y14, y15, y16, y17, .top, .top, .top, .top, .top, .top, .top, .top, .top, .top, .top, .top, y30, y31, y32, y33, y34, y35, y36, y37, y38, y39, y40, y41, y42, y43] h = obind (aLenK .str y0) fun v18 => obind (aBin .lss y6 v18) fun v19 => obind2 (guardB v19 true (obind (aIndexStr y0 y6) fun v20 => obind2 (aCall (env n_spec_l01Digit) [v20] h) fun v21 h22 => some (v21, h22)) (some (und, h))) fun v23 h24 => obind (aPick v19 v23 (bv false)) fun v25 => condB v25 (obind (aBin .add y6 (iv 1)) fun v26 => some (.normal, [y0, y1, y2, y3, y4, y5, v26, y7, y8, y9, y10, y11, y12, y13, y14, y15, y16, y17, y6, y0, v18, v19, v19, .top, .top, .top, v23, v25, y6, v26, y30, y31, y32, y33, y34, y35, y36, y37, y38, y39, y40, y41, y42, y43], h24)) (some (.exit 2, [y0, y1, y2, y3, y4, y5, y6, y7, y8, y9, y10, y11, y12, y13, y14, y15, y16, y17, y6, y0, v18, v19, v19, .top, .top, .top, v23, v25, .top, .top, y30, y31, y32, y33, y34, y35, y36, y37, y38, y39, y40, y41, y42, y43], h24)) := by kernel_rfl
theorem e_lk1x2_spec_l22Tokens (env : Nat → Contract) (z0 z1 z2 z3 z4 z5 z6 z7 z8 z9 z10 z11 z12 z13 z14 z15 z16 z17 z30 z31 z32 z33 z34 z35 z36 z37 z38 z39 z40 z41 z42 z43 : AV) (h : Heap) : lk1_spec_l22Tokens env (.exit 2) [z0, z1, z2, z3, z4, z5, z6, z7, z8, z9, z10, z11, z12, z13, z14, z15, z16, z17, .top, .top, .top, .top, .top, .top, .top, .top, .top, .top, .top, .top, z30, z31, z32, z33, z34, z35, z36, z37, z38, z39, z40, z41, z42, z43] h = obind (aSliceStr z0 (some z5) (some z6)) fun v27 => obind2 (aBuildSlice [(sv ⟨#[]⟩)] 1 [(0, v27)] h) fun v28 h29 => obind2 (aAppend false 1 16 z4 v28 h29) fun v30 h31 => some (.normal, [z0, z1, z2, z3, v30, z6, z6, z7, z8, z9, z10, z11, z12, z13, z14, z15, z16, z17, .top, .top, .top, .top, .top, .top, .top, .top, .top, .top, .top, .top, z30, z31, z32, z33, z34, z4, z0, z5, z6, v27, v28, v30, z6, z43], h31) := by kernel_rfl
theorem hb_impl_isDigit : HasBody Try.prog n_impl_isDigit := ⟨Try.f44, _, Try.func44, rfl, by decide⟩
theorem e_impl_isDigit (env : Nat → Contract) (x0 : AV) (h : Heap) : denFn Try.prog env n_impl_isDigit [x0] h = obind (aBin .geq x0 (.sc (.int .u8 48))) fun v1 => obind2 (guardB v1 true (obind (aBin .leq x0 (.sc (.int .u8 57))) fun v2 => some (v2, h)) (some (und, h))) fun v3 h4 => obind (aPick v1 v3 (bv false)) fun v5 => some (v5, h4) := by kernel_rfl
theorem hb_impl_isLetter : HasBody Try.prog n_impl_isLetter := ⟨Try.f45, _, Try.func45, rfl, by decide⟩
theorem e_impl_isLetter (env : Nat → Contract) (x0 : AV) (h : Heap) : denFn Try.prog env n_impl_isLetter [x0] h = obind (aBin .geq x0 (.sc (.int .u8 97))) fun v1 => obind2 (guardB v1 true (obind (aBin .leq x0 (.sc (.int .u8 122))) fun v2 => some (v2, h)) (some (und, h))) fun v3 h4 => obind (aPick v1 v3 (bv false)) fun v5 => some (v5, h4) := by kernel_rfl
theorem hb_strings_IndexByte : HasBody Try.prog n_strings_IndexByte := ⟨Try.f46, _, Try.func46, rfl, by decide⟩
theorem e_strings_IndexByte (env : Nat → Contract) (x0 x1 : AV) (h : Heap) : denFn Try.prog env n_strings_IndexByte [x0, x1] h = obind2 (aCall (env n_internal_stringslite_IndexByte) [x0, x1] h) fun v1 h2 => some (v1, h2) := by kernel_rfl
noncomputable abbrev c_laws_markText : Code := (Try.f47.body).getD .skip
noncomputable abbrev nm_laws_markText : List Bool := namedOf Try.f47
theorem hb_laws_markText : HasBody Try.prog n_laws_markText := ⟨Try.f47, _, Try.func47, rfl, by decide⟩
abbrev hm0_laws_markText : List Bool := [true, true, true, true, true, true, false, false, false, false, false, false, false, false, false, false, false, false, true, true]
abbrev xm0_laws_markText : List Bool := [true, true, true, true, true, true, false, false, false, false, false, false, false, false, false, false, false, false, true, true]
noncomputable def lb0_laws_markText (env : Nat → Contract) : TM → Heap → Option Res := fun tm h => denC Try.prog env nm_laws_markText (atrrrlll c_laws_markText) Res tm h fun e tm h => some (e, tm, h)
noncomputable def lk0_laws_markText (env : Nat → Contract) : AX → TM → Heap → Option (AV × Heap) := (kBlock 0 (kSeq Try.prog env nm_laws_markText (atrrrr c_laws_markText) _ (kRet Try.prog Try.f47.results.toList)))
theorem e_laws_markText (env : Nat → Contract) (x0 : AV) (h : Heap) : denFn Try.prog env n_laws_markText [x0] h = obind (aBin .leq x0 (iv 0)) fun v1 => condB v1 (some ((sv ⟨#[109, 48]⟩), h)) (obind (loopP hm0_laws_markText xm0_laws_markText (lb0_laws_markText env) [x0, und, (sv ⟨#[]⟩), (sv ⟨#[]⟩), x0, v1, .top, .top, .top, .top, .top, .top, .top, .top, .top, .top, .top, .top, und, und] h) fun r => lk0_laws_markText env r.1 r.2.1 r.2.2) := by kernel_rfl
theorem e_lb0_laws_markText (env : Nat → Contract) (y0 y1 y2 y3 y4 y5 y18 y19 : AV) (h : Heap) : lb0_laws_markText env [y0, y1, y2, y3, y4, y5, .top, .top, .top, .top, .top, .top, .top, .top, .top, .top, .top, .top, y18, y19] h = obind (aBin .gtr y0 (iv 0)) fun v2 => condB v2 (obind (aBin .rem y0 (iv 10)) fun v3 => obind (aBin .add (iv 48) v3) fun v4 => obind (aConvInt .u8 v4) fun v5 => obind2 (aBuildSlice [(.sc (.int .u8 0))] 1 [(0, v5)] h) fun v6 h7 => obind (aConvStr v6 h7) fun v8 => obind (aBin .add v8 y3) fun v9 => obind (aBin .quo y0 (iv 10)) fun v10 => some (.normal, [v10, y1, y2, v9, y4, y5, y0, v2, y0, v3, v4, v5, v6, v8, y3, v9, y0, v10, y18, y19], h7)) (some (.exit 0, [y0, y1, y2, y3, y4, y5, y0, v2, .top, .top, .top, .top, .top, .top, .top, .top, .top, .top, y18, y19], h)) := by kernel_rfl
theorem e_lk0x0_laws_markText (env : Nat → Contract) (z0 z1 z2 z3 z4 z5 z18 z19 : AV) (h : Heap) : lk0_laws_markText env (.exit 0) [z0, z1, z2, z3, z4, z5, .top, .top, .top, .top, .top, .top, .top, .top, .top, .top, .top, .top, z18, z19] h = obind (aBin .add (sv ⟨#[109]⟩) z3) fun v11 => some (v11, h) := by kernel_rfl
theorem hb_spec_l01Digit : HasBody Try.prog n_spec_l01Digit := ⟨Try.f73, _, Try.func73, rfl, by decide⟩
theorem e_spec_l01Digit (env : Nat → Contract) (x0 : AV) (h : Heap) : denFn Try.prog env n_spec_l01Digit [x0] h = obind (aBin .geq x0 (.sc (.int .u8 48))) fun v1 => obind2 (guardB v1 true (obind (aBin .leq x0 (.sc (.int .u8 57))) fun v2 => some (v2, h)) (some (und, h))) fun v3 h4 => obind (aPick v1 v3 (bv false)) fun v5 => some (v5, h4) := by kernel_rfl
noncomputable abbrev c_spec_l22Sign : Code := (Try.f74.body).getD .skip
noncomputable abbrev nm_spec_l22Sign : List Bool := namedOf Try.f74
theorem hb_spec_l22Sign : HasBody Try.prog n_spec_l22Sign := ⟨Try.f74, _, Try.func74, rfl, by decide⟩
abbrev hm0_spec_l22Sign : List Bool := [true, true, false, true, true, false, false, false, false, false, false, false, false, false, false, false, true, true]
abbrev xm0_spec_l22Sign : List Bool := [true, true, true, true, true, false, false, false, false, false, false, false, false, false, false, false, true, true]
noncomputable def lb0_spec_l22Sign (env : Nat → Contract) : TM → Heap → Option Res := fun tm h => denC Try.prog env nm_spec_l22Sign (atrrlrll c_spec_l22Sign) Res tm h fun e tm h => some (e, tm, h)
noncomputable def lk0_spec_l22Sign (env : Nat → Contract) : AX → TM → Heap → Option (AV × Heap) := (kBlock 0 (kSeq Try.prog env nm_spec_l22Sign (atrrr c_spec_l22Sign) _ (kRet Try.prog Try.f74.results.toList)))
theorem e_spec_l22Sign (env : Nat → Contract) (x0 : AV) (h : Heap) : denFn Try.prog env n_spec_l22Sign [x0] h = obind (loopP hm0_spec_l22Sign xm0_spec_l22Sign (lb0_spec_l22Sign env) [x0, und, .top, (sv ⟨#[43, 45, 42, 47, 94, 40, 41, 82]⟩), (iv 0), .top, .top, .top, .top, .top, .top, .top, .top, .top, .top, .top, und, und] h) fun r => lk0_spec_l22Sign env r.1 r.2.1 r.2.2 := by kernel_rfl
theorem e_lb0_spec_l22Sign (env : Nat → Contract) (y0 y1 y3 y4 y16 y17 : AV) (h : Heap) : lb0_spec_l22Sign env [y0, y1, .top, y3, y4, .top, .top, .top, .top, .top, .top, .top, .top, .top, .top, .top, y16, y17] h = obind (aLenK .str y3) fun v1 => obind (aBin .lss y4 v1) fun v2 => condB v2 (obind (aIndexStr y3 y4) fun v3 => obind (aCmp .eql .plain v3 y0) fun v4 => condB v4 (some (.ret, [y0, y1, (bv true), y3, y4, y4, y3, v1, v2, .top, .top, y3, y4, v3, y0, v4, y16, y17], h)) (obind (aBin .add y4 (iv 1)) fun v5 => some (.normal, [y0, y1, .top, y3, v5, y4, y3, v1, v2, y4, v5, y3, y4, v3, y0, v4, y16, y17], h))) (some (.exit 0, [y0, y1, .top, y3, y4, y4, y3, v1, v2, .top, .top, .top, .top, .top, .top, .top, y16, y17], h)) := by kernel_rfl
theorem e_lk0x0_spec_l22Sign (env : Nat → Contract) (z0 z1 z2 z3 z4 z16 z17 : AV) (h : Heap) : lk0_spec_l22Sign env (.exit 0) [z0, z1, z2, z3, z4, .top, .top, .top, .top, .top, .top, .top, .top, .top, .top, .top, z16, z17] h = obind2 (aCall (env n_spec_l01Small) [z0] h) fun v6 h7 => some (v6, h7) := by kernel_rfl
theorem e_lk0r_spec_l22Sign (env : Nat → Contract) (z0 z1 z2 z3 z4 z16 z17 : AV) (h : Heap) : lk0_spec_l22Sign env .ret [z0, z1, z2, z3, z4, .top, .top, .top, .top, .top, .top, .top, .top, .top, .top, .top, z16, z17] h = some (z2, h) := by kernel_rfl
theorem hb_internal_stringslite_IndexByte : HasBody Try.prog n_internal_stringslite_IndexByte := ⟨Try.f75, _, Try.func75, rfl, by decide⟩
theorem e_internal_stringslite_IndexByte (env : Nat → Contract) (x0 x1 : AV) (h : Heap) : denFn Try.prog env n_internal_stringslite_IndexByte [x0, x1] h = obind2 (aCall (env n_internal_bytealg_IndexByteString) [x0, x1] h) fun v1 h2 => some (v1, h2) := by kernel_rfl
theorem hb_spec_l01Small : HasBody Try.prog n_spec_l01Small := ⟨Try.f92, _, Try.func92, rfl, by decide⟩
theorem e_spec_l01Small (env : Nat → Contract) (x0 : AV) (h : Heap) : denFn Try.prog env n_spec_l01Small [x0] h = obind (aBin .geq x0 (.sc (.int .u8 97))) fun v1 => obind2 (guardB v1 true (obind (aBin .leq x0 (.sc (.int .u8 122))) fun v2 => some (v2, h)) (some (und, h))) fun v3 h4 => obind (aPick v1 v3 (bv false)) fun v5 => some (v5, h4) := by kernel_rfl
end Go.Proofs.Ytfladjnggkeiaaa
