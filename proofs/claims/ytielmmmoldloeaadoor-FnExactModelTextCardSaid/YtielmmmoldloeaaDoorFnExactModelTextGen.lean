/-
  The runs of the functions of this seat, in open form. Printed by a program of mine (gen.py).
-/
import Derived.Test.YtielmmmoldloeaaDoorProg
import Derived.Test.YtielmmmoldloeaaDoorEngDat2
import Derived.WalkKit
import Derived.BigCall
import Derived.Deep.RegionHeld3
import Derived.Shelf.Strings.BuilderF
import Derived.Shelf.Strings.BuilderK
import Derived.Shelf.Strings.MapGrows
import Derived.Shelf.Strconv.Itoa4
import Derived.Shelf.Strings.BuilderF
namespace Go.Proofs.YtielmmmoldloeaaDoor
open Go Go.Eng
set_option linter.unusedVariables false

@[simp] abbrev n_laws_FnExactModelText : Nat := 3
@[simp] abbrev n_laws_FnExactSymbolsText : Nat := 4
@[simp] abbrev n_laws_FnExactReadSymbols : Nat := 5
@[simp] abbrev n_laws_FnExactReadModel : Nat := 6
@[simp] abbrev n_laws_szModel : Nat := 7
@[simp] abbrev n_spec_ModelText : Nat := 8
@[simp] abbrev n_laws_toModel : Nat := 9
@[simp] abbrev n_impl_ModelText : Nat := 10
@[simp] abbrev n_laws_eqModel : Nat := 11
@[simp] abbrev n_laws_szSymbolS : Nat := 12
@[simp] abbrev n_spec_SymbolsText : Nat := 13
@[simp] abbrev n_laws_toSymbolS : Nat := 14
@[simp] abbrev n_impl_SymbolsText : Nat := 15
@[simp] abbrev n_laws_eqSymbolS : Nat := 16
@[simp] abbrev n_spec_ReadSymbols : Nat := 17
@[simp] abbrev n_impl_ReadSymbols : Nat := 18
@[simp] abbrev n_laws_markSymbolS : Nat := 19
@[simp] abbrev n_laws_heldSymbolS : Nat := 20
@[simp] abbrev n_spec_ReadModel : Nat := 21
@[simp] abbrev n_impl_ReadModel : Nat := 22
@[simp] abbrev n_laws_markModel : Nat := 23
@[simp] abbrev n_laws_heldModel : Nat := 24
@[simp] abbrev n_laws_szBigramS : Nat := 25
@[simp] abbrev n_spec_l18Ok : Nat := 26
@[simp] abbrev n_spec_l18Text : Nat := 27
@[simp] abbrev n_laws_toBigramS : Nat := 28
@[simp] abbrev n_impl_ValidModel : Nat := 29
@[simp] abbrev n_strings_Builder_WriteString : Nat := 30
@[simp] abbrev n_impl_Decimal : Nat := 31
@[simp] abbrev n_strings_Builder_String : Nat := 32
@[simp] abbrev n_laws_eqBigramS : Nat := 33
@[simp] abbrev n_laws_szSymbol : Nat := 34
@[simp] abbrev n_spec_l20Ok : Nat := 35
@[simp] abbrev n_spec_l20Text : Nat := 36
@[simp] abbrev n_laws_toSymbol : Nat := 37
@[simp] abbrev n_impl_ValidSymbols : Nat := 38
@[simp] abbrev n_laws_eqSymbol : Nat := 39
@[simp] abbrev n_spec_l01Split : Nat := 40
@[simp] abbrev n_spec_l20Line : Nat := 41
@[simp] abbrev n_impl_linesOf : Nat := 42
@[simp] abbrev n_impl_wordsOf : Nat := 43
@[simp] abbrev n_impl_ReadDecimal : Nat := 44
@[simp] abbrev n_laws_markText : Nat := 45
@[simp] abbrev n_spec_l18Read : Nat := 46
@[simp] abbrev n_strings_TrimPrefix : Nat := 47
@[simp] abbrev n_laws_markBigramS : Nat := 48
@[simp] abbrev n_laws_heldBigramS : Nat := 49
@[simp] abbrev n_laws_szBigram : Nat := 50
@[simp] abbrev n_spec_l18Bigram : Nat := 51
@[simp] abbrev n_spec_l18Before : Nat := 52
@[simp] abbrev n_spec_l00In : Nat := 53
@[simp] abbrev n_spec_l01Dec : Nat := 54
@[simp] abbrev n_laws_toBigram : Nat := 55
@[simp] abbrev n_impl_validBigram : Nat := 56
@[simp] abbrev n_impl_compareBigrams : Nat := 57
@[simp] abbrev n_impl_isCost : Nat := 58
@[simp] abbrev n_strings_Builder_copyCheck : Nat := 59
@[simp] abbrev n_strconv_FormatInt : Nat := 60
@[simp] abbrev n_laws_eqBigram : Nat := 61
@[simp] abbrev n_spec_IsLabel : Nat := 62
@[simp] abbrev n_spec_l02Box : Nat := 63
@[simp] abbrev n_laws_toBox : Nat := 64
@[simp] abbrev n_slices_ContainsFunc_impl_Symbol_impl_Symbol : Nat := 65
@[simp] abbrev n_impl_ValidSymbols_1 : Nat := 66
@[simp] abbrev n_impl_IsLabel : Nat := 67
@[simp] abbrev n_impl_ValidBox : Nat := 68
@[simp] abbrev n_laws_eqBox : Nat := 69
@[simp] abbrev n_spec_l01Number : Nat := 70
@[simp] abbrev n_strings_HasSuffix : Nat := 71
@[simp] abbrev n_strings_Split : Nat := 72
@[simp] abbrev n_strings_TrimSuffix : Nat := 73
@[simp] abbrev n_strconv_ParseInt : Nat := 74
@[simp] abbrev n_internal_stringslite_TrimPrefix : Nat := 75
@[simp] abbrev n_spec_l18First : Nat := 76
@[simp] abbrev n_spec_IsWord : Nat := 77
@[simp] abbrev n_impl_IsWord : Nat := 78
@[simp] abbrev n_cmp_Or_int : Nat := 79
@[simp] abbrev n_cmp_Compare_string : Nat := 80
@[simp] abbrev n_impl_within : Nat := 81
@[simp] abbrev n_internal_strconv_FormatInt : Nat := 83
@[simp] abbrev n_spec_l11Label : Nat := 84
@[simp] abbrev n_slices_IndexFunc_impl_Symbol_impl_Symbol : Nat := 85
@[simp] abbrev n_impl_isLetter : Nat := 86
@[simp] abbrev n_strings_Contains : Nat := 87
@[simp] abbrev n_spec_l01Digit : Nat := 88
@[simp] abbrev n_internal_stringslite_HasSuffix : Nat := 89
@[simp] abbrev n_strings_genSplit : Nat := 90
@[simp] abbrev n_internal_stringslite_TrimSuffix : Nat := 91
@[simp] abbrev n_internal_strconv_ParseInt : Nat := 92
@[simp] abbrev n_strconv_toError : Nat := 93
@[simp] abbrev n_internal_stringslite_HasPrefix : Nat := 94
@[simp] abbrev n_spec_l01Small : Nat := 95
@[simp] abbrev n_cmp_isNaN_string : Nat := 96
@[simp] abbrev n_internal_strconv_small : Nat := 97
@[simp] abbrev n_internal_strconv_numDigits : Nat := 98
@[simp] abbrev n_internal_strconv_formatBase10 : Nat := 99
@[simp] abbrev n_internal_strconv_formatBits : Nat := 100
@[simp] abbrev n_strings_Index : Nat := 101
@[simp] abbrev n_strings_explode : Nat := 102
@[simp] abbrev n_strings_Count : Nat := 103
@[simp] abbrev n_internal_strconv_ParseUint : Nat := 104
@[simp] abbrev n_strconv_syntaxError : Nat := 105
@[simp] abbrev n_strconv_rangeError : Nat := 106
@[simp] abbrev n_strconv_baseError : Nat := 107
@[simp] abbrev n_strconv_bitSizeError : Nat := 108
@[simp] abbrev n_internal_strconv_log10Pow2 : Nat := 109
@[simp] abbrev n_math_bits_Len64 : Nat := 110
@[simp] abbrev n_internal_strconv_bool2_int : Nat := 111
@[simp] abbrev n_internal_strconv_isPowerOfTwo : Nat := 112
@[simp] abbrev n_math_bits_TrailingZeros : Nat := 113
@[simp] abbrev n_internal_stringslite_Index : Nat := 114
@[simp] abbrev n_unicode_utf8_RuneCountInString : Nat := 115
@[simp] abbrev n_unicode_utf8_DecodeRuneInString : Nat := 116
@[simp] abbrev n_internal_bytealg_CountString : Nat := 117
@[simp] abbrev n_internal_strconv_lower : Nat := 118
@[simp] abbrev n_internal_strconv_underscoreOK : Nat := 119
@[simp] abbrev n_internal_stringslite_Clone : Nat := 120
@[simp] abbrev n_errors_New : Nat := 121
@[simp] abbrev n_strconv_Itoa : Nat := 122
@[simp] abbrev n_math_bits_TrailingZeros32 : Nat := 123
@[simp] abbrev n_math_bits_TrailingZeros64 : Nat := 124
@[simp] abbrev n_internal_stringslite_IndexByte : Nat := 125
@[simp] abbrev n_internal_bytealg_IndexString : Nat := 126
@[simp] abbrev n_internal_bytealg_Cutover : Nat := 127
@[simp] abbrev n_internal_bytealg_IndexRabinKarp_string : Nat := 128
@[simp] abbrev n_unicode_utf8_decodeRuneInStringSlow : Nat := 129
@[simp] abbrev n_internal_strconv_Itoa : Nat := 130
@[simp] abbrev n_internal_bytealg_IndexByteString : Nat := 131
@[simp] abbrev n_internal_bytealg_hashStr_string : Nat := 132
@[simp] abbrev n_gosem_cut_vars : Nat := 162
theorem mixed : Tryd.prog.follows .mixedOrders = true := by kernel_rfl
abbrev atrr (c : Code) : Code := (codeR (codeR c))
abbrev atrrr (c : Code) : Code := (codeR (codeR (codeR c)))
abbrev atrrrr (c : Code) : Code := (codeR (codeR (codeR (codeR c))))
abbrev atrlrll (c : Code) : Code := (codeL (codeL (codeR (codeL (codeR c)))))
abbrev atrrlrll (c : Code) : Code := (codeL (codeL (codeR (codeL (codeR (codeR c))))))
abbrev atrrrlrll (c : Code) : Code := (codeL (codeL (codeR (codeL (codeR (codeR (codeR c)))))))
theorem hb_laws_FnExactModelText : HasBody Tryd.prog n_laws_FnExactModelText := ⟨Tryd.f3, _, Tryd.func3, rfl, by decide⟩
theorem e_laws_FnExactModelText (env : Nat → Contract) (x0 : AV) (h : Heap) : denFn Tryd.prog env n_laws_FnExactModelText [x0] h = obind2 (aBox (AV.cells x0) h) fun v1 h2 => obind (aLoad true 2 v1 h2) fun v3 => obind2 (aCall (env n_laws_szModel) [v3, (iv 1048576)] h2) fun v4 h5 => obind (aBin .lss v4 (iv 0)) fun v6 => condB v6 (some ((bv true), h5)) (obind (aLoad true 2 v1 h5) fun v7 => obind2 (aCall (env n_laws_toModel) [v7] h5) fun v8 h9 => obind2 (aCall (env n_spec_ModelText) [v8] h9) fun v10 h11 => obind (aLoad true 2 v1 h11) fun v12 => obind2 (aCall (env n_laws_toModel) [v12] h11) fun v13 h14 => obind2 (aBox [(iv 0), nilS] h14) fun v15 h16 => obind (aStore 2 v15 v13 h16) fun h17 => obind (aLoad true 2 v15 h17) fun v18 => obind2 (aCall (env n_impl_ModelText) [v18] h17) fun v19 h20 => obind (aCmp .neq .plain v19 v10) fun v21 => condB v21 (some ((bv false), h20)) (obind (aLoad true 2 v15 h20) fun v22 => obind (aLoad true 2 v1 h20) fun v23 => obind2 (aCallQ (env n_laws_toModel) [v23] h20) fun v24 h25 => obind2 (aCallQ (env n_laws_eqModel) [v22, v24] h25) fun v26 h27 => obind (aUn .not v26) fun v28 => condB v28 (some ((bv false), h27)) (some ((bv true), h27)))) := by kernel_rfl
theorem hb_laws_szModel : HasBody Tryd.prog n_laws_szModel := ⟨Tryd.f7, _, Tryd.func7, rfl, by decide⟩
theorem e_laws_szModel (env : Nat → Contract) (x0 x1 : AV) (h : Heap) : denFn Tryd.prog env n_laws_szModel [x0, x1] h = obind2 (aBox (AV.cells x0) h) fun v1 h2 => obind (aFieldAddr 1 v1) fun v3 => obind (aLoad false 1 v3 h2) fun v4 => obind2 (aCall (env n_laws_szBigramS) [v4, x1] h2) fun v5 h6 => obind (aBin .lss v5 (iv 0)) fun v7 => condB v7 (some ((iv (-1)), h6)) (some (v5, h6)) := by kernel_rfl
theorem hb_spec_ModelText : HasBody Tryd.prog n_spec_ModelText := ⟨Tryd.f8, _, Tryd.func8, rfl, by decide⟩
theorem e_spec_ModelText (env : Nat → Contract) (x0 : AV) (h : Heap) : denFn Tryd.prog env n_spec_ModelText [x0] h = obind2 (aBox (AV.cells x0) h) fun v1 h2 => obind2 (aCall (env n_spec_l18Ok) [v1] h2) fun v3 h4 => obind (aUn .not v3) fun v5 => condB v5 (some ((sv ⟨#[]⟩), h4)) (obind2 (aCall (env n_spec_l18Text) [v1] h4) fun v6 h7 => some (v6, h7)) := by kernel_rfl
theorem hb_laws_toModel : HasBody Tryd.prog n_laws_toModel := ⟨Tryd.f9, _, Tryd.func9, rfl, by decide⟩
theorem e_laws_toModel (env : Nat → Contract) (x0 : AV) (h : Heap) : denFn Tryd.prog env n_laws_toModel [x0] h = obind2 (aBox (AV.cells x0) h) fun v1 h2 => obind2 (aBox [(iv 0), nilS] h2) fun v3 h4 => obind2 (aBox [(iv 0), nilS] h4) fun v5 h6 => obind (aFieldAddr 0 v1) fun v7 => obind (aLoad false 1 v7 h6) fun v8 => obind (aFieldAddr 0 v5) fun v9 => obind (aStore 1 v9 v8 h6) fun h10 => obind (aFieldAddr 1 v1) fun v11 => obind (aLoad false 1 v11 h10) fun v12 => obind2 (aCall (env n_laws_toBigramS) [v12] h10) fun v13 h14 => obind (aFieldAddr 1 v5) fun v15 => obind (aStore 1 v15 v13 h14) fun h16 => obind (aLoad true 2 v5 h16) fun v17 => obind (aStore 2 v3 v17 h16) fun h18 => retL [.c true 2 v3] h18 := by kernel_rfl
theorem hb_laws_eqModel : HasBody Tryd.prog n_laws_eqModel := ⟨Tryd.f11, _, Tryd.func11, rfl, by decide⟩
theorem e_laws_eqModel (env : Nat → Contract) (x0 x1 : AV) (h : Heap) : denFn Tryd.prog env n_laws_eqModel [x0, x1] h = obind2 (aBox (AV.cells x0) h) fun v1 h2 => obind2 (aBox (AV.cells x1) h2) fun v3 h4 => obind (aFieldAddr 0 v1) fun v5 => obind (aLoad false 1 v5 h4) fun v6 => obind (aFieldAddr 0 v3) fun v7 => obind (aLoad false 1 v7 h4) fun v8 => obind (aCmp .neq .plain v6 v8) fun v9 => condB v9 (some ((bv false), h4)) (obind (aFieldAddr 1 v1) fun v10 => obind (aLoad false 1 v10 h4) fun v11 => obind (aFieldAddr 1 v3) fun v12 => obind (aLoad false 1 v12 h4) fun v13 => obind2 (aCall (env n_laws_eqBigramS) [v11, v13] h4) fun v14 h15 => obind (aUn .not v14) fun v16 => condB v16 (some ((bv false), h15)) (some ((bv true), h15))) := by kernel_rfl
noncomputable abbrev c_laws_szBigramS : Code := (Tryd.f25.body).getD .skip
noncomputable abbrev nm_laws_szBigramS : List Bool := namedOf Tryd.f25
theorem hb_laws_szBigramS : HasBody Tryd.prog n_laws_szBigramS := ⟨Tryd.f25, _, Tryd.func25, rfl, by decide⟩
abbrev hm0_laws_szBigramS : List Bool := [true, true, true, true, false, true, true, true, true, true, true, true, false, false, false, false, false, false, false, false, false, false, false, false, false, false, true]
abbrev xm0_laws_szBigramS : List Bool := [true, true, true, true, true, true, true, true, true, true, true, true, false, false, false, false, false, false, false, false, false, false, false, false, false, false, true]
noncomputable def lb0_laws_szBigramS (env : Nat → Contract) : TM → Heap → Option Res := fun tm h => denC Tryd.prog env nm_laws_szBigramS (atrrrlrll c_laws_szBigramS) Res tm h fun e tm h => some (e, tm, h)
noncomputable def lk0_laws_szBigramS (env : Nat → Contract) : AX → TM → Heap → Option (AV × Heap) := (kBlock 0 (kSeq Tryd.prog env nm_laws_szBigramS (atrrrr c_laws_szBigramS) _ (kRet Tryd.prog Tryd.f25.results.toList)))
theorem e_laws_szBigramS (env : Nat → Contract) (x0 x1 : AV) (h : Heap) : denFn Tryd.prog env n_laws_szBigramS [x0, x1] h = obind (aLenK .slice x0) fun v1 => obind (aBin .sub x1 v1) fun v2 => obind (aBin .lss v2 (iv 0)) fun v3 => condB v3 (some ((iv (-1)), h)) (obind (loopP hm0_laws_szBigramS xm0_laws_szBigramS (lb0_laws_szBigramS env) [x0, v2, und, und, .top, (iv 0), x1, x0, v1, v2, v2, v3, .top, .top, .top, .top, .top, .top, .top, .top, .top, .top, .top, .top, .top, .top, und] h) fun r => lk0_laws_szBigramS env r.1 r.2.1 r.2.2) := by kernel_rfl
theorem e_lb0_laws_szBigramS (env : Nat → Contract) (y0 y1 y2 y3 y5 y6 y7 y8 y9 y10 y11 y26 : AV) (h : Heap) : lb0_laws_szBigramS env [y0, y1, y2, y3, .top, y5, y6, y7, y8, y9, y10, y11, .top, .top, .top, .top, .top, .top, .top, .top, .top, .top, .top, .top, .top, .top, y26] h = obind (aLenK .slice y0) fun v4 => obind (aBin .lss y5 v4) fun v5 => condB v5 (obind (aIndexAddr 3 y0 y5 h) fun v6 => obind (aLoad true 3 v6 h) fun v7 => obind2 (aCall (env n_laws_szBigram) [v7, y1] h) fun v8 h9 => obind (aBin .lss v8 (iv 0)) fun v10 => condB v10 (some (.ret, [y0, v8, y2, y3, (iv (-1)), y5, y6, y7, y8, y9, y10, y11, y5, y0, v4, v5, .top, .top, y0, y5, v6, v7, y1, v8, v8, v10, y26], h9)) (obind (aBin .add y5 (iv 1)) fun v11 => some (.normal, [y0, v8, y2, y3, .top, v11, y6, y7, y8, y9, y10, y11, y5, y0, v4, v5, y5, v11, y0, y5, v6, v7, y1, v8, v8, v10, y26], h9))) (some (.exit 0, [y0, y1, y2, y3, .top, y5, y6, y7, y8, y9, y10, y11, y5, y0, v4, v5, .top, .top, .top, .top, .top, .top, .top, .top, .top, .top, y26], h)) := by kernel_rfl
theorem e_lk0x0_laws_szBigramS (env : Nat → Contract) (z0 z1 z2 z3 z4 z5 z6 z7 z8 z9 z10 z11 z26 : AV) (h : Heap) : lk0_laws_szBigramS env (.exit 0) [z0, z1, z2, z3, z4, z5, z6, z7, z8, z9, z10, z11, .top, .top, .top, .top, .top, .top, .top, .top, .top, .top, .top, .top, .top, .top, z26] h = some (z1, h) := by kernel_rfl
theorem e_lk0r_laws_szBigramS (env : Nat → Contract) (z0 z1 z2 z3 z4 z5 z6 z7 z8 z9 z10 z11 z26 : AV) (h : Heap) : lk0_laws_szBigramS env .ret [z0, z1, z2, z3, z4, z5, z6, z7, z8, z9, z10, z11, .top, .top, .top, .top, .top, .top, .top, .top, .top, .top, .top, .top, .top, .top, z26] h = some (z4, h) := by kernel_rfl
noncomputable abbrev c_spec_l18Ok : Code := (Tryd.f26.body).getD .skip
noncomputable abbrev nm_spec_l18Ok : List Bool := namedOf Tryd.f26
theorem hb_spec_l18Ok : HasBody Tryd.prog n_spec_l18Ok := ⟨Tryd.f26, _, Tryd.func26, rfl, by decide⟩
abbrev hm0_spec_l18Ok : List Bool := [true, true, false, true, false, false, false, false, false, false, false, false, false, false, false, false, false, false, false, false, false, false, false, false, false, false, false, false, false, false, false, false, false, false, false, false, false, false, false, false, false, false, true, true, true, true, true, true, true, true, true, true, true, true, true]
abbrev xm0_spec_l18Ok : List Bool := [true, true, true, true, false, false, false, false, false, false, false, false, false, false, false, false, false, false, false, false, false, false, false, false, false, false, false, false, false, false, false, false, false, false, false, false, false, false, false, false, false, false, true, true, true, true, true, true, true, true, true, true, true, true, true]
noncomputable def lb0_spec_l18Ok (env : Nat → Contract) : TM → Heap → Option Res := fun tm h => denC Tryd.prog env nm_spec_l18Ok (atrlrll c_spec_l18Ok) Res tm h fun e tm h => some (e, tm, h)
noncomputable def lk0_spec_l18Ok (env : Nat → Contract) : AX → TM → Heap → Option (AV × Heap) := (kBlock 0 (kSeq Tryd.prog env nm_spec_l18Ok (atrr c_spec_l18Ok) _ (kRet Tryd.prog Tryd.f26.results.toList)))
theorem e_spec_l18Ok (env : Nat → Contract) (x0 : AV) (h : Heap) : denFn Tryd.prog env n_spec_l18Ok [x0] h = obind (loopP hm0_spec_l18Ok xm0_spec_l18Ok (lb0_spec_l18Ok env) [x0, und, .top, (iv 0), .top, .top, .top, .top, .top, .top, .top, .top, .top, .top, .top, .top, .top, .top, .top, .top, .top, .top, .top, .top, .top, .top, .top, .top, .top, .top, .top, .top, .top, .top, .top, .top, .top, .top, .top, .top, .top, .top, und, und, und, und, und, und, und, und, und, und, und, und, und] h) fun r => lk0_spec_l18Ok env r.1 r.2.1 r.2.2 := by kernel_rfl
theorem e_lb0_spec_l18Ok (env : Nat → Contract) (y0 y1 y3 y42 y43 y44 y45 y46 y47 y48 y49 y50 y51 y52 y53 y54 : AV) (h : Heap) : lb0_spec_l18Ok env [y0, y1, .top, y3, .top, .top, .top, .top, .top, .top, .top, .top, .top, .top, .top, .top, .top, .top, .top, .top, .top, .top, .top, .top, .top, .top, .top, .top, .top, .top, .top, .top, .top, .top, .top, .top, .top, .top, .top, .top, .top, .top, y42, y43, y44, y45, y46, y47, y48, y49, y50, y51, y52, y53, y54] h = obind (aNilCheck y0) fun v1 => obind (aFieldAddr 1 v1) fun v2 => obind (aLoad false 1 v2 h) fun v3 => obind (aLenK .slice v3) fun v4 => obind (aBin .lss y3 v4) fun v5 => condB v5 (obind (aNilCheck y0) fun v6 => obind (aFieldAddr 1 v6) fun v7 => obind (aLoad false 1 v7 h) fun v8 => obind (aIndexAddr 3 v8 y3 h) fun v9 => obind2 (aCallQ (env n_spec_l18Bigram) [v9] h) fun v10 h11 => obind (aUn .not v10) fun v12 => obind2 (guardB v12 false (some (y3, h11)) (some (und, h11))) fun v13 h14 => obind2 (guardB v12 false (obind (aBin .gtr v13 (iv 0)) fun v15 => some (v15, h14)) (some (und, h14))) fun v16 h17 => obind2 (guardB v12 false (some (v16, h17)) (some (und, h17))) fun v18 h19 => obind2 (guardB v18 true (some (y0, h19)) (some (und, h19))) fun v20 h21 => obind2 (guardB v18 true (obind (aNilCheck v20) fun v22 => some (v22, h21)) (some (und, h21))) fun v23 h24 => obind2 (guardB v18 true (obind (aFieldAddr 1 v23) fun v25 => some (v25, h24)) (some (und, h24))) fun v26 h27 => obind2 (guardB v18 true (obind (aLoad false 1 v26 h27) fun v28 => some (v28, h27)) (some (und, h27))) fun v29 h30 => obind2 (guardB v18 true (some (y3, h30)) (some (und, h30))) fun v31 h32 => obind2 (guardB v18 true (obind (aBin .sub v31 (iv 1)) fun v33 => some (v33, h32)) (some (und, h32))) fun v34 h35 => obind2 (guardB v18 true (obind (aIndexAddr 3 v29 v34 h35) fun v36 => some (v36, h35)) (some (und, h35))) fun v37 h38 => obind2 (guardB v18 true (some (y0, h38)) (some (und, h38))) fun v39 h40 => obind2 (guardB v18 true (obind (aNilCheck v39) fun v41 => some (v41, h40)) (some (und, h40))) fun v42 h43 => obind2 (guardB v18 true (obind (aFieldAddr 1 v42) fun v44 => some (v44, h43)) (some (und, h43))) fun v45 h46 => obind2 (guardB v18 true (obind (aLoad false 1 v45 h46) fun v47 => some (v47, h46)) (some (und, h46))) fun v48 h49 => obind2 (guardB v18 true (some (y3, h49)) (some (und, h49))) fun v50 h51 => obind2 (guardB v18 true (obind (aIndexAddr 3 v48 v50 h51) fun v52 => some (v52, h51)) (some (und, h51))) fun v53 h54 => obind2 (guardB v18 true (obind2 (aCallQ (env n_spec_l18Before) [v37, v53] h54) fun v55 h56 => some (v55, h56)) (some (und, h54))) fun v57 h58 => obind2 (guardB v18 true (obind (aUn .not v57) fun v59 => some (v59, h58)) (some (und, h58))) fun v60 h61 => obind2 (guardB v12 false (obind (aPick v18 v60 (bv false)) fun v62 => some (v62, h61)) (some (und, h61))) fun v63 h64 => obind (aPick v12 (bv true) v63) fun v65 => condB v65 (some (.ret, [y0, y1, (bv false), y3, y3, y0, v1, v2, v3, v4, v5, .top, .top, y0, v6, v7, v8, y3, v9, v10, v12, v12, v13, v16, v18, v20, v23, v26, v29, v31, v34, v37, v39, v42, v45, v48, v50, v53, v57, v60, v63, v65, y42, y43, y44, y45, y46, y47, y48, y49, y50, y51, y52, y53, y54], h64)) (obind (aBin .add y3 (iv 1)) fun v66 => some (.normal, [y0, y1, .top, v66, y3, y0, v1, v2, v3, v4, v5, y3, v66, y0, v6, v7, v8, y3, v9, v10, v12, v12, v13, v16, v18, v20, v23, v26, v29, v31, v34, v37, v39, v42, v45, v48, v50, v53, v57, v60, v63, v65, y42, y43, y44, y45, y46, y47, y48, y49, y50, y51, y52, y53, y54], h64))) (some (.exit 0, [y0, y1, .top, y3, y3, y0, v1, v2, v3, v4, v5, .top, .top, .top, .top, .top, .top, .top, .top, .top, .top, .top, .top, .top, .top, .top, .top, .top, .top, .top, .top, .top, .top, .top, .top, .top, .top, .top, .top, .top, .top, .top, y42, y43, y44, y45, y46, y47, y48, y49, y50, y51, y52, y53, y54], h)) := by kernel_rfl
theorem e_lk0x0_spec_l18Ok (env : Nat → Contract) (z0 z1 z2 z3 z42 z43 z44 z45 z46 z47 z48 z49 z50 z51 z52 z53 z54 : AV) (h : Heap) : lk0_spec_l18Ok env (.exit 0) [z0, z1, z2, z3, .top, .top, .top, .top, .top, .top, .top, .top, .top, .top, .top, .top, .top, .top, .top, .top, .top, .top, .top, .top, .top, .top, .top, .top, .top, .top, .top, .top, .top, .top, .top, .top, .top, .top, .top, .top, .top, .top, z42, z43, z44, z45, z46, z47, z48, z49, z50, z51, z52, z53, z54] h = obind (aNilCheck z0) fun v67 => obind (aFieldAddr 0 v67) fun v68 => obind (aLoad false 1 v68 h) fun v69 => obind2 (aCall (env n_spec_l00In) [v69, (iv 0), (iv 1000000)] h) fun v70 h71 => obind2 (guardB v70 true (obind (aNilCheck z0) fun v72 => obind (aFieldAddr 1 v72) fun v73 => obind (aLoad false 1 v73 h71) fun v74 => obind (aLenK .slice v74) fun v75 => obind (aBin .leq v75 (iv 60)) fun v76 => some (v76, h71)) (some (und, h71))) fun v77 h78 => obind (aPick v70 v77 (bv false)) fun v79 => some (v79, h78) := by kernel_rfl
theorem e_lk0r_spec_l18Ok (env : Nat → Contract) (z0 z1 z2 z3 z42 z43 z44 z45 z46 z47 z48 z49 z50 z51 z52 z53 z54 : AV) (h : Heap) : lk0_spec_l18Ok env .ret [z0, z1, z2, z3, .top, .top, .top, .top, .top, .top, .top, .top, .top, .top, .top, .top, .top, .top, .top, .top, .top, .top, .top, .top, .top, .top, .top, .top, .top, .top, .top, .top, .top, .top, .top, .top, .top, .top, .top, .top, .top, .top, z42, z43, z44, z45, z46, z47, z48, z49, z50, z51, z52, z53, z54] h = some (z2, h) := by kernel_rfl
noncomputable abbrev c_spec_l18Text : Code := (Tryd.f27.body).getD .skip
noncomputable abbrev nm_spec_l18Text : List Bool := namedOf Tryd.f27
theorem hb_spec_l18Text : HasBody Tryd.prog n_spec_l18Text := ⟨Tryd.f27, _, Tryd.func27, rfl, by decide⟩
abbrev hm0_spec_l18Text : List Bool := [true, true, true, true, true, false, false, true, true, true, true, true, true, true, false, false, false, false, false, false, false, false, false, false, false, false, false, false, false, false, false, false, false, false, false, false, false, false, false, false, false, false, false, false, false, false, false, false, false, false, false, false, true]
abbrev xm0_spec_l18Text : List Bool := [true, true, true, true, true, true, true, true, true, true, true, true, true, true, false, false, false, false, false, false, false, false, false, false, false, false, false, false, false, false, false, false, false, false, false, false, false, false, false, false, false, false, false, false, false, false, false, false, false, false, false, false, true]
noncomputable def lb0_spec_l18Text (env : Nat → Contract) : TM → Heap → Option Res := fun tm h => denC Tryd.prog env nm_spec_l18Text (atrrlrll c_spec_l18Text) Res tm h fun e tm h => some (e, tm, h)
noncomputable def lk0_spec_l18Text (env : Nat → Contract) : AX → TM → Heap → Option (AV × Heap) := (kBlock 0 (kSeq Tryd.prog env nm_spec_l18Text (atrrr c_spec_l18Text) _ (kRet Tryd.prog Tryd.f27.results.toList)))
theorem e_spec_l18Text (env : Nat → Contract) (x0 : AV) (h : Heap) : denFn Tryd.prog env n_spec_l18Text [x0] h = obind (aNilCheck x0) fun v1 => obind (aFieldAddr 0 v1) fun v2 => obind (aLoad false 1 v2 h) fun v3 => obind2 (aCall (env n_spec_l01Dec) [v3] h) fun v4 h5 => obind (aBin .add (sv ⟨#[100, 101, 102, 97, 117, 108, 116, 32]⟩) v4) fun v6 => obind (aBin .add v6 (sv ⟨#[10]⟩)) fun v7 => obind (loopP hm0_spec_l18Text xm0_spec_l18Text (lb0_spec_l18Text env) [x0, und, (sv ⟨#[]⟩), v7, (iv 0), .top, .top, x0, v1, v2, v3, v4, v6, v7, .top, .top, .top, .top, .top, .top, .top, .top, .top, .top, .top, .top, .top, .top, .top, .top, .top, .top, .top, .top, .top, .top, .top, .top, .top, .top, .top, .top, .top, .top, .top, .top, .top, .top, .top, .top, .top, .top, und] h5) fun r => lk0_spec_l18Text env r.1 r.2.1 r.2.2 := by kernel_rfl
theorem e_lb0_spec_l18Text (env : Nat → Contract) (y0 y1 y2 y3 y4 y7 y8 y9 y10 y11 y12 y13 y52 : AV) (h : Heap) : lb0_spec_l18Text env [y0, y1, y2, y3, y4, .top, .top, y7, y8, y9, y10, y11, y12, y13, .top, .top, .top, .top, .top, .top, .top, .top, .top, .top, .top, .top, .top, .top, .top, .top, .top, .top, .top, .top, .top, .top, .top, .top, .top, .top, .top, .top, .top, .top, .top, .top, .top, .top, .top, .top, .top, .top, y52] h = obind (aNilCheck y0) fun v8 => obind (aFieldAddr 1 v8) fun v9 => obind (aLoad false 1 v9 h) fun v10 => obind (aLenK .slice v10) fun v11 => obind (aBin .lss y4 v11) fun v12 => condB v12 (obind (aNilCheck y0) fun v13 => obind (aFieldAddr 1 v13) fun v14 => obind (aLoad false 1 v14 h) fun v15 => obind (aIndexAddr 3 v15 y4 h) fun v16 => obind (aNilCheck v16) fun v17 => obind (aFieldAddr 0 v17) fun v18 => obind (aLoad false 1 v18 h) fun v19 => obind (aCmp .eql .plain v19 (sv ⟨#[]⟩)) fun v20 => condB v20 (obind (aBin .add (sv ⟨#[45]⟩) (sv ⟨#[32]⟩)) fun v21 => obind (aNilCheck v16) fun v22 => obind (aFieldAddr 1 v22) fun v23 => obind (aLoad false 1 v23 h) fun v24 => obind (aBin .add v21 v24) fun v25 => obind (aBin .add v25 (sv ⟨#[32]⟩)) fun v26 => obind (aNilCheck v16) fun v27 => obind (aFieldAddr 2 v27) fun v28 => obind (aLoad false 1 v28 h) fun v29 => obind2 (aCallQ (env n_spec_l01Dec) [v29] h) fun v30 h31 => obind (aBin .add v26 v30) fun v32 => obind (aBin .add v32 (sv ⟨#[10]⟩)) fun v33 => obind (aBin .add y3 v33) fun v34 => obind (aBin .add y4 (iv 1)) fun v35 => some (.normal, [y0, y1, y2, v34, v35, v16, (sv ⟨#[45]⟩), y7, y8, y9, y10, y11, y12, y13, y4, y0, v8, v9, v10, v11, v12, y4, v35, y0, v13, v14, v15, y4, v16, v16, v17, v18, v19, v19, v20, y3, (sv ⟨#[45]⟩), v21, v16, v22, v23, v24, v25, v26, v16, v27, v28, v29, v30, v32, v33, v34, y52], h31)) (obind (aBin .add v19 (sv ⟨#[32]⟩)) fun v36 => obind (aNilCheck v16) fun v37 => obind (aFieldAddr 1 v37) fun v38 => obind (aLoad false 1 v38 h) fun v39 => obind (aBin .add v36 v39) fun v40 => obind (aBin .add v40 (sv ⟨#[32]⟩)) fun v41 => obind (aNilCheck v16) fun v42 => obind (aFieldAddr 2 v42) fun v43 => obind (aLoad false 1 v43 h) fun v44 => obind2 (aCallQ (env n_spec_l01Dec) [v44] h) fun v45 h46 => obind (aBin .add v41 v45) fun v47 => obind (aBin .add v47 (sv ⟨#[10]⟩)) fun v48 => obind (aBin .add y3 v48) fun v49 => obind (aBin .add y4 (iv 1)) fun v50 => some (.normal, [y0, y1, y2, v49, v50, v16, v19, y7, y8, y9, y10, y11, y12, y13, y4, y0, v8, v9, v10, v11, v12, y4, v50, y0, v13, v14, v15, y4, v16, v16, v17, v18, v19, v19, v20, y3, v19, v36, v16, v37, v38, v39, v40, v41, v16, v42, v43, v44, v45, v47, v48, v49, y52], h46))) (some (.exit 0, [y0, y1, y2, y3, y4, .top, .top, y7, y8, y9, y10, y11, y12, y13, y4, y0, v8, v9, v10, v11, v12, .top, .top, .top, .top, .top, .top, .top, .top, .top, .top, .top, .top, .top, .top, .top, .top, .top, .top, .top, .top, .top, .top, .top, .top, .top, .top, .top, .top, .top, .top, .top, y52], h)) := by kernel_rfl
theorem e_lk0x0_spec_l18Text (env : Nat → Contract) (z0 z1 z2 z3 z4 z5 z6 z7 z8 z9 z10 z11 z12 z13 z52 : AV) (h : Heap) : lk0_spec_l18Text env (.exit 0) [z0, z1, z2, z3, z4, z5, z6, z7, z8, z9, z10, z11, z12, z13, .top, .top, .top, .top, .top, .top, .top, .top, .top, .top, .top, .top, .top, .top, .top, .top, .top, .top, .top, .top, .top, .top, .top, .top, .top, .top, .top, .top, .top, .top, .top, .top, .top, .top, .top, .top, .top, .top, z52] h = some (z3, h) := by kernel_rfl
noncomputable abbrev c_laws_toBigramS : Code := (Tryd.f28.body).getD .skip
noncomputable abbrev nm_laws_toBigramS : List Bool := namedOf Tryd.f28
theorem hb_laws_toBigramS : HasBody Tryd.prog n_laws_toBigramS := ⟨Tryd.f28, _, Tryd.func28, rfl, by decide⟩
abbrev hm0_laws_toBigramS : List Bool := [true, true, true, true, true, true, true, true, false, false, false, false, false, false, false, false, false, false, false, false, false, false, true]
abbrev xm0_laws_toBigramS : List Bool := [true, true, true, true, true, true, true, true, false, false, false, false, false, false, false, false, false, false, false, false, false, false, true]
noncomputable def lb0_laws_toBigramS (env : Nat → Contract) : TM → Heap → Option Res := fun tm h => denC Tryd.prog env nm_laws_toBigramS (atrrlrll c_laws_toBigramS) Res tm h fun e tm h => some (e, tm, h)
noncomputable def lk0_laws_toBigramS (env : Nat → Contract) : AX → TM → Heap → Option (AV × Heap) := (kBlock 0 (kSeq Tryd.prog env nm_laws_toBigramS (atrrr c_laws_toBigramS) _ (kRet Tryd.prog Tryd.f28.results.toList)))
theorem e_laws_toBigramS (env : Nat → Contract) (x0 : AV) (h : Heap) : denFn Tryd.prog env n_laws_toBigramS [x0] h = obind (aLenK .slice x0) fun v1 => obind2 (aMakeSlice [(sv ⟨#[]⟩), (sv ⟨#[]⟩), (iv 0)] 40 v1 v1 h) fun v2 h3 => obind (loopP hm0_laws_toBigramS xm0_laws_toBigramS (lb0_laws_toBigramS env) [x0, und, nilS, v2, (iv 0), x0, v1, v2, .top, .top, .top, .top, .top, .top, .top, .top, .top, .top, .top, .top, .top, .top, und] h3) fun r => lk0_laws_toBigramS env r.1 r.2.1 r.2.2 := by kernel_rfl
theorem e_lb0_laws_toBigramS (env : Nat → Contract) (y0 y1 y2 y3 y4 y5 y6 y7 y22 : AV) (h : Heap) : lb0_laws_toBigramS env [y0, y1, y2, y3, y4, y5, y6, y7, .top, .top, .top, .top, .top, .top, .top, .top, .top, .top, .top, .top, .top, .top, y22] h = obind (aLenK .slice y0) fun v4 => obind (aBin .lss y4 v4) fun v5 => condB v5 (obind (aIndexAddr 3 y0 y4 h) fun v6 => obind (aLoad true 3 v6 h) fun v7 => obind2 (aCall (env n_laws_toBigram) [v7] h) fun v8 h9 => obind (aIndexAddr 3 y3 y4 h9) fun v10 => obind (aStore 3 v10 v8 h9) fun h11 => obind (aBin .add y4 (iv 1)) fun v12 => some (.normal, [y0, y1, y2, y3, v12, y5, y6, y7, y4, y0, v4, v5, y4, v12, y3, y4, y0, y4, v6, v7, v8, v10, y22], h11)) (some (.exit 0, [y0, y1, y2, y3, y4, y5, y6, y7, y4, y0, v4, v5, .top, .top, .top, .top, .top, .top, .top, .top, .top, .top, y22], h)) := by kernel_rfl
theorem e_lk0x0_laws_toBigramS (env : Nat → Contract) (z0 z1 z2 z3 z4 z5 z6 z7 z22 : AV) (h : Heap) : lk0_laws_toBigramS env (.exit 0) [z0, z1, z2, z3, z4, z5, z6, z7, .top, .top, .top, .top, .top, .top, .top, .top, .top, .top, .top, .top, .top, .top, z22] h = some (z3, h) := by kernel_rfl
noncomputable abbrev c_impl_ValidModel : Code := (Tryd.f29.body).getD .skip
noncomputable abbrev nm_impl_ValidModel : List Bool := namedOf Tryd.f29
theorem hb_impl_ValidModel : HasBody Tryd.prog n_impl_ValidModel := ⟨Tryd.f29, _, Tryd.func29, rfl, by decide⟩
abbrev hm0_impl_ValidModel : List Bool := [true, true, false, false, false, true, true, true, true, false, false, false, false, false, false, false, false, false, false, false, false, false, false, false, false, false, false, false, false, false, false, false, true, true, true, true, true, true, true, true, true]
abbrev xm0_impl_ValidModel : List Bool := [true, true, true, true, true, true, true, true, false, false, false, false, false, false, false, false, false, false, false, false, false, false, false, false, false, false, false, false, false, false, false, false, true, true, true, true, true, true, true, true, true]
noncomputable def lb0_impl_ValidModel (env : Nat → Contract) : TM → Heap → Option Res := fun tm h => denC Tryd.prog env nm_impl_ValidModel (atrlrll c_impl_ValidModel) Res tm h fun e tm h => some (e, tm, h)
noncomputable def lk0_impl_ValidModel (env : Nat → Contract) : AX → TM → Heap → Option (AV × Heap) := (kBlock 0 (kSeq Tryd.prog env nm_impl_ValidModel (atrr c_impl_ValidModel) _ (kRet Tryd.prog Tryd.f29.results.toList)))
theorem e_impl_ValidModel (env : Nat → Contract) (x0 : AV) (h : Heap) : denFn Tryd.prog env n_impl_ValidModel [x0] h = obind2 (aBox (AV.cells x0) h) fun v1 h2 => obind (aFieldAddr 1 v1) fun v3 => obind (aLoad false 1 v3 h2) fun v4 => obind (aLenK .slice v4) fun v5 => obind (loopP hm0_impl_ValidModel xm0_impl_ValidModel (lb0_impl_ValidModel env) [x0, v1, .top, .top, .top, v3, v4, v5, (iv 0), .top, .top, .top, .top, .top, .top, .top, .top, .top, .top, .top, .top, .top, .top, .top, .top, .top, .top, .top, .top, .top, .top, .top, und, und, und, und, und, und, und, und, und] h2) fun r => lk0_impl_ValidModel env r.1 r.2.1 r.2.2 := by kernel_rfl
theorem e_lb0_impl_ValidModel (env : Nat → Contract) (y0 y1 y5 y6 y7 y8 y32 y33 y34 y35 y36 y37 y38 y39 y40 : AV) (h : Heap) : lb0_impl_ValidModel env [y0, y1, .top, .top, .top, y5, y6, y7, y8, .top, .top, .top, .top, .top, .top, .top, .top, .top, .top, .top, .top, .top, .top, .top, .top, .top, .top, .top, .top, .top, .top, .top, y32, y33, y34, y35, y36, y37, y38, y39, y40] h = obind (aBin .lss y8 y7) fun v6 => condB v6 (obind (aIndexAddr 3 y6 y8 h) fun v7 => obind (aLoad true 3 v7 h) fun v8 => obind2 (aBox [(sv ⟨#[]⟩), (sv ⟨#[]⟩), (iv 0)] h) fun v9 h10 => obind (aStore 3 v9 v8 h10) fun h11 => obind (aLoad true 3 v9 h11) fun v12 => obind2 (aCallQ (env n_impl_validBigram) [v12] h11) fun v13 h14 => obind (aUn .not v13) fun v15 => obind2 (guardB v15 false (some (y8, h14)) (some (und, h14))) fun v16 h17 => obind2 (guardB v15 false (obind (aBin .gtr v16 (iv 0)) fun v18 => some (v18, h17)) (some (und, h17))) fun v19 h20 => obind2 (guardB v15 false (some (v19, h20)) (some (und, h20))) fun v21 h22 => obind2 (guardB v21 true (obind (aFieldAddr 1 y1) fun v23 => some (v23, h22)) (some (und, h22))) fun v24 h25 => obind2 (guardB v21 true (obind (aLoad false 1 v24 h25) fun v26 => some (v26, h25)) (some (und, h25))) fun v27 h28 => obind2 (guardB v21 true (some (y8, h28)) (some (und, h28))) fun v29 h30 => obind2 (guardB v21 true (obind (aBin .sub v29 (iv 1)) fun v31 => some (v31, h30)) (some (und, h30))) fun v32 h33 => obind2 (guardB v21 true (obind (aIndexAddr 3 v27 v32 h33) fun v34 => some (v34, h33)) (some (und, h33))) fun v35 h36 => obind2 (guardB v21 true (obind (aLoad true 3 v35 h36) fun v37 => some (v37, h36)) (some (und, h36))) fun v38 h39 => obind2 (guardB v21 true (obind (aLoad true 3 v9 h39) fun v40 => some (v40, h39)) (some (und, h39))) fun v41 h42 => obind2 (guardB v21 true (obind2 (aCallQ (env n_impl_compareBigrams) [v38, v41] h42) fun v43 h44 => some (v43, h44)) (some (und, h42))) fun v45 h46 => obind2 (guardB v21 true (obind (aBin .geq v45 (iv 0)) fun v47 => some (v47, h46)) (some (und, h46))) fun v48 h49 => obind2 (guardB v15 false (obind (aPick v21 v48 (bv false)) fun v50 => some (v50, h49)) (some (und, h49))) fun v51 h52 => obind (aPick v15 (bv true) v51) fun v53 => condB v53 (some (.ret, [y0, y1, (bv false), y8, v9, y5, y6, y7, y8, v6, y8, v7, v8, v12, v13, v15, v15, v16, v19, v21, v24, v27, v29, v32, v35, v38, v41, v45, v48, v51, v53, .top, y32, y33, y34, y35, y36, y37, y38, y39, y40], h52)) (obind (aBin .add y8 (iv 1)) fun v54 => some (.normal, [y0, y1, .top, y8, v9, y5, y6, y7, v54, v6, y8, v7, v8, v12, v13, v15, v15, v16, v19, v21, v24, v27, v29, v32, v35, v38, v41, v45, v48, v51, v53, v54, y32, y33, y34, y35, y36, y37, y38, y39, y40], h52))) (some (.exit 0, [y0, y1, .top, .top, .top, y5, y6, y7, y8, v6, .top, .top, .top, .top, .top, .top, .top, .top, .top, .top, .top, .top, .top, .top, .top, .top, .top, .top, .top, .top, .top, .top, y32, y33, y34, y35, y36, y37, y38, y39, y40], h)) := by kernel_rfl
theorem e_lk0x0_impl_ValidModel (env : Nat → Contract) (z0 z1 z2 z3 z4 z5 z6 z7 z32 z33 z34 z35 z36 z37 z38 z39 z40 : AV) (h : Heap) : lk0_impl_ValidModel env (.exit 0) [z0, z1, z2, z3, z4, z5, z6, z7, .top, .top, .top, .top, .top, .top, .top, .top, .top, .top, .top, .top, .top, .top, .top, .top, .top, .top, .top, .top, .top, .top, .top, .top, z32, z33, z34, z35, z36, z37, z38, z39, z40] h = obind (aFieldAddr 0 z1) fun v55 => obind (aLoad false 1 v55 h) fun v56 => obind2 (aCall (env n_impl_isCost) [v56] h) fun v57 h58 => obind2 (guardB v57 true (obind (aFieldAddr 1 z1) fun v59 => obind (aLoad false 1 v59 h58) fun v60 => obind (aLenK .slice v60) fun v61 => obind (aBin .leq v61 (iv 60)) fun v62 => some (v62, h58)) (some (und, h58))) fun v63 h64 => obind (aPick v57 v63 (bv false)) fun v65 => some (v65, h64) := by kernel_rfl
theorem e_lk0r_impl_ValidModel (env : Nat → Contract) (z0 z1 z2 z3 z4 z5 z6 z7 z32 z33 z34 z35 z36 z37 z38 z39 z40 : AV) (h : Heap) : lk0_impl_ValidModel env .ret [z0, z1, z2, z3, z4, z5, z6, z7, .top, .top, .top, .top, .top, .top, .top, .top, .top, .top, .top, .top, .top, .top, .top, .top, .top, .top, .top, .top, .top, .top, .top, .top, z32, z33, z34, z35, z36, z37, z38, z39, z40] h = some (z2, h) := by kernel_rfl
theorem hb_impl_Decimal : HasBody Tryd.prog n_impl_Decimal := ⟨Tryd.f31, _, Tryd.func31, rfl, by decide⟩
theorem e_impl_Decimal (env : Nat → Contract) (x0 : AV) (h : Heap) : denFn Tryd.prog env n_impl_Decimal [x0] h = obind2 (aCall (env n_strconv_FormatInt) [x0, (iv 10)] h) fun v1 h2 => some (v1, h2) := by kernel_rfl
noncomputable abbrev c_laws_eqBigramS : Code := (Tryd.f33.body).getD .skip
noncomputable abbrev nm_laws_eqBigramS : List Bool := namedOf Tryd.f33
theorem hb_laws_eqBigramS : HasBody Tryd.prog n_laws_eqBigramS := ⟨Tryd.f33, _, Tryd.func33, rfl, by decide⟩
abbrev hm0_laws_eqBigramS : List Bool := [true, true, true, true, false, true, true, true, true, true, true, false, false, false, false, false, false, false, false, false, false, false, false, false, false, false, false]
abbrev xm0_laws_eqBigramS : List Bool := [true, true, true, true, true, true, true, true, true, true, true, false, false, false, false, false, false, false, false, false, false, false, false, false, false, false, false]
noncomputable def lb0_laws_eqBigramS (env : Nat → Contract) : TM → Heap → Option Res := fun tm h => denC Tryd.prog env nm_laws_eqBigramS (atrrlrll c_laws_eqBigramS) Res tm h fun e tm h => some (e, tm, h)
noncomputable def lk0_laws_eqBigramS (env : Nat → Contract) : AX → TM → Heap → Option (AV × Heap) := (kBlock 0 (kSeq Tryd.prog env nm_laws_eqBigramS (atrrr c_laws_eqBigramS) _ (kRet Tryd.prog Tryd.f33.results.toList)))
theorem e_laws_eqBigramS (env : Nat → Contract) (x0 x1 : AV) (h : Heap) : denFn Tryd.prog env n_laws_eqBigramS [x0, x1] h = obind (aLenK .slice x0) fun v1 => obind (aLenK .slice x1) fun v2 => obind (aCmp .neq .plain v1 v2) fun v3 => condB v3 (some ((bv false), h)) (obind (loopP hm0_laws_eqBigramS xm0_laws_eqBigramS (lb0_laws_eqBigramS env) [x0, x1, und, und, .top, (iv 0), x0, v1, x1, v2, v3, .top, .top, .top, .top, .top, .top, .top, .top, .top, .top, .top, .top, .top, .top, .top, .top] h) fun r => lk0_laws_eqBigramS env r.1 r.2.1 r.2.2) := by kernel_rfl
theorem e_lb0_laws_eqBigramS (env : Nat → Contract) (y0 y1 y2 y3 y5 y6 y7 y8 y9 y10 : AV) (h : Heap) : lb0_laws_eqBigramS env [y0, y1, y2, y3, .top, y5, y6, y7, y8, y9, y10, .top, .top, .top, .top, .top, .top, .top, .top, .top, .top, .top, .top, .top, .top, .top, .top] h = obind (aLenK .slice y0) fun v4 => obind (aBin .lss y5 v4) fun v5 => condB v5 (obind (aIndexAddr 3 y0 y5 h) fun v6 => obind (aLoad true 3 v6 h) fun v7 => obind (aIndexAddr 3 y1 y5 h) fun v8 => obind (aLoad true 3 v8 h) fun v9 => obind2 (aCallQ (env n_laws_eqBigram) [v7, v9] h) fun v10 h11 => obind (aUn .not v10) fun v12 => condB v12 (some (.ret, [y0, y1, y2, y3, (bv false), y5, y6, y7, y8, y9, y10, y5, y0, v4, v5, .top, .top, y0, y5, v6, v7, y1, y5, v8, v9, v10, v12], h11)) (obind (aBin .add y5 (iv 1)) fun v13 => some (.normal, [y0, y1, y2, y3, .top, v13, y6, y7, y8, y9, y10, y5, y0, v4, v5, y5, v13, y0, y5, v6, v7, y1, y5, v8, v9, v10, v12], h11))) (some (.exit 0, [y0, y1, y2, y3, .top, y5, y6, y7, y8, y9, y10, y5, y0, v4, v5, .top, .top, .top, .top, .top, .top, .top, .top, .top, .top, .top, .top], h)) := by kernel_rfl
theorem e_lk0x0_laws_eqBigramS (env : Nat → Contract) (z0 z1 z2 z3 z4 z5 z6 z7 z8 z9 z10 : AV) (h : Heap) : lk0_laws_eqBigramS env (.exit 0) [z0, z1, z2, z3, z4, z5, z6, z7, z8, z9, z10, .top, .top, .top, .top, .top, .top, .top, .top, .top, .top, .top, .top, .top, .top, .top, .top] h = some ((bv true), h) := by kernel_rfl
theorem e_lk0r_laws_eqBigramS (env : Nat → Contract) (z0 z1 z2 z3 z4 z5 z6 z7 z8 z9 z10 : AV) (h : Heap) : lk0_laws_eqBigramS env .ret [z0, z1, z2, z3, z4, z5, z6, z7, z8, z9, z10, .top, .top, .top, .top, .top, .top, .top, .top, .top, .top, .top, .top, .top, .top, .top, .top] h = some (z4, h) := by kernel_rfl
theorem hb_laws_szBigram : HasBody Tryd.prog n_laws_szBigram := ⟨Tryd.f50, _, Tryd.func50, rfl, by decide⟩
theorem e_laws_szBigram (env : Nat → Contract) (x0 x1 : AV) (h : Heap) : denFn Tryd.prog env n_laws_szBigram [x0, x1] h = obind2 (aBox (AV.cells x0) h) fun v1 h2 => obind (aFieldAddr 0 v1) fun v3 => obind (aLoad false 1 v3 h2) fun v4 => obind (aLenK .str v4) fun v5 => obind (aBin .sub x1 v5) fun v6 => obind (aBin .lss v6 (iv 0)) fun v7 => condB v7 (some ((iv (-1)), h2)) (obind (aFieldAddr 1 v1) fun v8 => obind (aLoad false 1 v8 h2) fun v9 => obind (aLenK .str v9) fun v10 => obind (aBin .sub v6 v10) fun v11 => obind (aBin .lss v11 (iv 0)) fun v12 => condB v12 (some ((iv (-1)), h2)) (some (v11, h2))) := by kernel_rfl
theorem hb_spec_l18Bigram : HasBody Tryd.prog n_spec_l18Bigram := ⟨Tryd.f51, _, Tryd.func51, rfl, by decide⟩
theorem e_spec_l18Bigram (env : Nat → Contract) (x0 : AV) (h : Heap) : denFn Tryd.prog env n_spec_l18Bigram [x0] h = obind (aNilCheck x0) fun v1 => obind (aFieldAddr 0 v1) fun v2 => obind (aLoad false 1 v2 h) fun v3 => obind2 (aCall (env n_spec_l18First) [v3] h) fun v4 h5 => obind2 (guardB v4 true (obind (aNilCheck x0) fun v6 => obind (aFieldAddr 1 v6) fun v7 => obind (aLoad false 1 v7 h5) fun v8 => obind2 (aCall (env n_spec_IsWord) [v8] h5) fun v9 h10 => some (v9, h10)) (some (und, h5))) fun v11 h12 => obind (aPick v4 v11 (bv false)) fun v13 => obind2 (guardB v13 true (obind (aNilCheck x0) fun v14 => obind (aFieldAddr 2 v14) fun v15 => obind (aLoad false 1 v15 h12) fun v16 => obind2 (aCall (env n_spec_l00In) [v16, (iv 0), (iv 1000000)] h12) fun v17 h18 => some (v17, h18)) (some (und, h12))) fun v19 h20 => obind (aPick v13 v19 (bv false)) fun v21 => some (v21, h20) := by kernel_rfl
theorem hb_spec_l18Before : HasBody Tryd.prog n_spec_l18Before := ⟨Tryd.f52, _, Tryd.func52, rfl, by decide⟩
theorem e_spec_l18Before (env : Nat → Contract) (x0 x1 : AV) (h : Heap) : denFn Tryd.prog env n_spec_l18Before [x0, x1] h = obind (aNilCheck x0) fun v1 => obind (aFieldAddr 0 v1) fun v2 => obind (aLoad false 1 v2 h) fun v3 => obind (aNilCheck x1) fun v4 => obind (aFieldAddr 0 v4) fun v5 => obind (aLoad false 1 v5 h) fun v6 => obind (aBin .lss v3 v6) fun v7 => obind2 (guardB v7 false (some (x0, h)) (some (und, h))) fun v8 h9 => obind2 (guardB v7 false (obind (aNilCheck v8) fun v10 => some (v10, h9)) (some (und, h9))) fun v11 h12 => obind2 (guardB v7 false (obind (aFieldAddr 0 v11) fun v13 => some (v13, h12)) (some (und, h12))) fun v14 h15 => obind2 (guardB v7 false (obind (aLoad false 1 v14 h15) fun v16 => some (v16, h15)) (some (und, h15))) fun v17 h18 => obind2 (guardB v7 false (some (x1, h18)) (some (und, h18))) fun v19 h20 => obind2 (guardB v7 false (obind (aNilCheck v19) fun v21 => some (v21, h20)) (some (und, h20))) fun v22 h23 => obind2 (guardB v7 false (obind (aFieldAddr 0 v22) fun v24 => some (v24, h23)) (some (und, h23))) fun v25 h26 => obind2 (guardB v7 false (obind (aLoad false 1 v25 h26) fun v27 => some (v27, h26)) (some (und, h26))) fun v28 h29 => obind2 (guardB v7 false (obind (aCmp .eql .plain v17 v28) fun v30 => some (v30, h29)) (some (und, h29))) fun v31 h32 => obind2 (guardB v7 false (some (v31, h32)) (some (und, h32))) fun v33 h34 => obind2 (guardB v33 true (some (x0, h34)) (some (und, h34))) fun v35 h36 => obind2 (guardB v33 true (obind (aNilCheck v35) fun v37 => some (v37, h36)) (some (und, h36))) fun v38 h39 => obind2 (guardB v33 true (obind (aFieldAddr 1 v38) fun v40 => some (v40, h39)) (some (und, h39))) fun v41 h42 => obind2 (guardB v33 true (obind (aLoad false 1 v41 h42) fun v43 => some (v43, h42)) (some (und, h42))) fun v44 h45 => obind2 (guardB v33 true (some (x1, h45)) (some (und, h45))) fun v46 h47 => obind2 (guardB v33 true (obind (aNilCheck v46) fun v48 => some (v48, h47)) (some (und, h47))) fun v49 h50 => obind2 (guardB v33 true (obind (aFieldAddr 1 v49) fun v51 => some (v51, h50)) (some (und, h50))) fun v52 h53 => obind2 (guardB v33 true (obind (aLoad false 1 v52 h53) fun v54 => some (v54, h53)) (some (und, h53))) fun v55 h56 => obind2 (guardB v33 true (obind (aBin .lss v44 v55) fun v57 => some (v57, h56)) (some (und, h56))) fun v58 h59 => obind2 (guardB v7 false (obind (aPick v33 v58 (bv false)) fun v60 => some (v60, h59)) (some (und, h59))) fun v61 h62 => obind (aPick v7 (bv true) v61) fun v63 => some (v63, h62) := by kernel_rfl
theorem hb_spec_l00In : HasBody Tryd.prog n_spec_l00In := ⟨Tryd.f53, _, Tryd.func53, rfl, by decide⟩
theorem e_spec_l00In (env : Nat → Contract) (x0 x1 x2 : AV) (h : Heap) : denFn Tryd.prog env n_spec_l00In [x0, x1, x2] h = obind (aBin .geq x0 x1) fun v1 => obind2 (guardB v1 true (obind (aBin .leq x0 x2) fun v2 => some (v2, h)) (some (und, h))) fun v3 h4 => obind (aPick v1 v3 (bv false)) fun v5 => some (v5, h4) := by kernel_rfl
noncomputable abbrev c_spec_l01Dec : Code := (Tryd.f54.body).getD .skip
noncomputable abbrev nm_spec_l01Dec : List Bool := namedOf Tryd.f54
theorem hb_spec_l01Dec : HasBody Tryd.prog n_spec_l01Dec := ⟨Tryd.f54, _, Tryd.func54, rfl, by decide⟩
abbrev hm0_spec_l01Dec : List Bool := [true, true, true, true, true, false, true, true, false, false, false, false, false, false, false, false, false, false, false, false, false, false, false, false, true, true, true, true, true, true, true, true, true, true]
abbrev xm0_spec_l01Dec : List Bool := [true, true, true, true, true, true, true, true, false, false, false, false, false, false, false, false, false, false, false, false, false, false, false, false, true, true, true, true, true, true, true, true, true, true]
noncomputable def lb0_spec_l01Dec (env : Nat → Contract) : TM → Heap → Option Res := fun tm h => denC Tryd.prog env nm_spec_l01Dec (atrrlrll c_spec_l01Dec) Res tm h fun e tm h => some (e, tm, h)
noncomputable def lk0_spec_l01Dec (env : Nat → Contract) : AX → TM → Heap → Option (AV × Heap) := (kBlock 0 (kSeq Tryd.prog env nm_spec_l01Dec (atrrr c_spec_l01Dec) _ (kRet Tryd.prog Tryd.f54.results.toList)))
theorem e_spec_l01Dec (env : Nat → Contract) (x0 : AV) (h : Heap) : denFn Tryd.prog env n_spec_l01Dec [x0] h = obind2 (aBuildSlice [(.sc (.int .u8 0))] 0 [] h) fun v1 h2 => obind (loopP hm0_spec_l01Dec xm0_spec_l01Dec (lb0_spec_l01Dec env) [x0, und, (sv ⟨#[]⟩), v1, x0, .top, v1, x0, .top, .top, .top, .top, .top, .top, .top, .top, .top, .top, .top, .top, .top, .top, .top, .top, und, und, und, und, und, und, und, und, und, und] h2) fun r => lk0_spec_l01Dec env r.1 r.2.1 r.2.2 := by kernel_rfl
theorem e_lb0_spec_l01Dec (env : Nat → Contract) (y0 y1 y2 y3 y4 y6 y7 y24 y25 y26 y27 y28 y29 y30 y31 y32 y33 : AV) (h : Heap) : lb0_spec_l01Dec env [y0, y1, y2, y3, y4, .top, y6, y7, .top, .top, .top, .top, .top, .top, .top, .top, .top, .top, .top, .top, .top, .top, .top, .top, y24, y25, y26, y27, y28, y29, y30, y31, y32, y33] h = obind (aCmp .neq .plain y4 (iv 0)) fun v3 => condB v3 (obind (aBin .rem y4 (iv 10)) fun v4 => obind (aBin .lss v4 (iv 0)) fun v5 => condB v5 (obind (aUn .neg v4) fun v6 => obind (aBin .add (iv 48) v6) fun v7 => obind (aConvInt .u8 v7) fun v8 => obind2 (aBuildSlice [(.sc (.int .u8 0))] 1 [(0, v8)] h) fun v9 h10 => obind2 (aAppend false 1 1 v9 y3 h10) fun v11 h12 => obind (aBin .quo y4 (iv 10)) fun v13 => some (.normal, [y0, y1, y2, v11, v13, v6, y6, y7, y4, v3, y4, v13, y4, v4, v4, v5, v4, v6, v6, v7, v8, v9, y3, v11, y24, y25, y26, y27, y28, y29, y30, y31, y32, y33], h12)) (obind (aBin .add (iv 48) v4) fun v14 => obind (aConvInt .u8 v14) fun v15 => obind2 (aBuildSlice [(.sc (.int .u8 0))] 1 [(0, v15)] h) fun v16 h17 => obind2 (aAppend false 1 1 v16 y3 h17) fun v18 h19 => obind (aBin .quo y4 (iv 10)) fun v20 => some (.normal, [y0, y1, y2, v18, v20, v4, y6, y7, y4, v3, y4, v20, y4, v4, v4, v5, .top, .top, v4, v14, v15, v16, y3, v18, y24, y25, y26, y27, y28, y29, y30, y31, y32, y33], h19))) (some (.exit 0, [y0, y1, y2, y3, y4, .top, y6, y7, y4, v3, .top, .top, .top, .top, .top, .top, .top, .top, .top, .top, .top, .top, .top, .top, y24, y25, y26, y27, y28, y29, y30, y31, y32, y33], h)) := by kernel_rfl
theorem e_lk0x0_spec_l01Dec (env : Nat → Contract) (z0 z1 z2 z3 z4 z5 z6 z7 z24 z25 z26 z27 z28 z29 z30 z31 z32 z33 : AV) (h : Heap) : lk0_spec_l01Dec env (.exit 0) [z0, z1, z2, z3, z4, z5, z6, z7, .top, .top, .top, .top, .top, .top, .top, .top, .top, .top, .top, .top, .top, .top, .top, .top, z24, z25, z26, z27, z28, z29, z30, z31, z32, z33] h = obind (aLenK .slice z3) fun v21 => obind (aCmp .eql .plain v21 (iv 0)) fun v22 => condB v22 (some ((sv ⟨#[48]⟩), h)) (obind (aBin .lss z0 (iv 0)) fun v23 => condB v23 (obind (aConvStr z3 h) fun v24 => obind (aBin .add (sv ⟨#[45]⟩) v24) fun v25 => some (v25, h)) (obind (aConvStr z3 h) fun v26 => some (v26, h))) := by kernel_rfl
theorem hb_laws_toBigram : HasBody Tryd.prog n_laws_toBigram := ⟨Tryd.f55, _, Tryd.func55, rfl, by decide⟩
theorem e_laws_toBigram (env : Nat → Contract) (x0 : AV) (h : Heap) : denFn Tryd.prog env n_laws_toBigram [x0] h = obind2 (aBox (AV.cells x0) h) fun v1 h2 => obind2 (aBox [(sv ⟨#[]⟩), (sv ⟨#[]⟩), (iv 0)] h2) fun v3 h4 => obind2 (aBox [(sv ⟨#[]⟩), (sv ⟨#[]⟩), (iv 0)] h4) fun v5 h6 => obind (aFieldAddr 0 v1) fun v7 => obind (aLoad false 1 v7 h6) fun v8 => obind (aFieldAddr 0 v5) fun v9 => obind (aStore 1 v9 v8 h6) fun h10 => obind (aFieldAddr 1 v1) fun v11 => obind (aLoad false 1 v11 h10) fun v12 => obind (aFieldAddr 1 v5) fun v13 => obind (aStore 1 v13 v12 h10) fun h14 => obind (aFieldAddr 2 v1) fun v15 => obind (aLoad false 1 v15 h14) fun v16 => obind (aFieldAddr 2 v5) fun v17 => obind (aStore 1 v17 v16 h14) fun h18 => obind (aLoad true 3 v5 h18) fun v19 => obind (aStore 3 v3 v19 h18) fun h20 => retL [.c true 3 v3] h20 := by kernel_rfl
theorem hb_impl_validBigram : HasBody Tryd.prog n_impl_validBigram := ⟨Tryd.f56, _, Tryd.func56, rfl, by decide⟩
theorem e_impl_validBigram (env : Nat → Contract) (x0 : AV) (h : Heap) : denFn Tryd.prog env n_impl_validBigram [x0] h = obind2 (aBox (AV.cells x0) h) fun v1 h2 => obind (aFieldAddr 1 v1) fun v3 => obind (aLoad false 1 v3 h2) fun v4 => obind2 (aCall (env n_impl_IsWord) [v4] h2) fun v5 h6 => obind2 (guardB v5 true (obind (aFieldAddr 0 v1) fun v7 => obind (aLoad false 1 v7 h6) fun v8 => obind (aCmp .eql .plain v8 (sv ⟨#[]⟩)) fun v9 => some (v9, h6)) (some (und, h6))) fun v10 h11 => obind2 (guardB v10 false (obind (aFieldAddr 0 v1) fun v12 => obind (aLoad false 1 v12 h11) fun v13 => obind2 (aCall (env n_impl_IsWord) [v13] h11) fun v14 h15 => some (v14, h15)) (some (und, h11))) fun v16 h17 => obind2 (guardB v5 true (obind (aPick v10 (bv true) v16) fun v18 => some (v18, h17)) (some (und, h17))) fun v19 h20 => obind (aPick v5 v19 (bv false)) fun v21 => obind2 (guardB v21 true (obind (aFieldAddr 2 v1) fun v22 => obind (aLoad false 1 v22 h20) fun v23 => obind2 (aCall (env n_impl_isCost) [v23] h20) fun v24 h25 => some (v24, h25)) (some (und, h20))) fun v26 h27 => obind (aPick v21 v26 (bv false)) fun v28 => some (v28, h27) := by kernel_rfl
theorem hb_impl_compareBigrams : HasBody Tryd.prog n_impl_compareBigrams := ⟨Tryd.f57, _, Tryd.func57, rfl, by decide⟩
theorem e_impl_compareBigrams (env : Nat → Contract) (x0 x1 : AV) (h : Heap) : denFn Tryd.prog env n_impl_compareBigrams [x0, x1] h = obind2 (aBox (AV.cells x0) h) fun v1 h2 => obind2 (aBox (AV.cells x1) h2) fun v3 h4 => obind (aFieldAddr 0 v1) fun v5 => obind (aLoad false 1 v5 h4) fun v6 => obind (aFieldAddr 0 v3) fun v7 => obind (aLoad false 1 v7 h4) fun v8 => obind2 (aCallQ (env n_cmp_Compare_string) [v6, v8] h4) fun v9 h10 => obind (aFieldAddr 1 v1) fun v11 => obind (aLoad false 1 v11 h10) fun v12 => obind (aFieldAddr 1 v3) fun v13 => obind (aLoad false 1 v13 h10) fun v14 => obind2 (aCallQ (env n_cmp_Compare_string) [v12, v14] h10) fun v15 h16 => obind2 (aBuildSlice [(iv 0)] 2 [(0, v9), (1, v15)] h16) fun v17 h18 => obind2 (aCallQ (env n_cmp_Or_int) [v17] h18) fun v19 h20 => some (v19, h20) := by kernel_rfl
theorem hb_impl_isCost : HasBody Tryd.prog n_impl_isCost := ⟨Tryd.f58, _, Tryd.func58, rfl, by decide⟩
theorem e_impl_isCost (env : Nat → Contract) (x0 : AV) (h : Heap) : denFn Tryd.prog env n_impl_isCost [x0] h = obind2 (aCall (env n_impl_within) [x0, (iv 0), (iv 1000000)] h) fun v1 h2 => some (v1, h2) := by kernel_rfl
theorem hb_strconv_FormatInt : HasBody Tryd.prog n_strconv_FormatInt := ⟨Tryd.f60, _, Tryd.func60, rfl, by decide⟩
theorem e_strconv_FormatInt (env : Nat → Contract) (x0 x1 : AV) (h : Heap) : denFn Tryd.prog env n_strconv_FormatInt [x0, x1] h = obind2 (aCall (env n_internal_strconv_FormatInt) [x0, x1] h) fun v1 h2 => some (v1, h2) := by kernel_rfl
theorem hb_laws_eqBigram : HasBody Tryd.prog n_laws_eqBigram := ⟨Tryd.f61, _, Tryd.func61, rfl, by decide⟩
theorem e_laws_eqBigram (env : Nat → Contract) (x0 x1 : AV) (h : Heap) : denFn Tryd.prog env n_laws_eqBigram [x0, x1] h = obind2 (aBox (AV.cells x0) h) fun v1 h2 => obind2 (aBox (AV.cells x1) h2) fun v3 h4 => obind (aFieldAddr 0 v1) fun v5 => obind (aLoad false 1 v5 h4) fun v6 => obind (aFieldAddr 0 v3) fun v7 => obind (aLoad false 1 v7 h4) fun v8 => obind (aCmp .neq .plain v6 v8) fun v9 => condB v9 (some ((bv false), h4)) (obind (aFieldAddr 1 v1) fun v10 => obind (aLoad false 1 v10 h4) fun v11 => obind (aFieldAddr 1 v3) fun v12 => obind (aLoad false 1 v12 h4) fun v13 => obind (aCmp .neq .plain v11 v13) fun v14 => condB v14 (some ((bv false), h4)) (obind (aFieldAddr 2 v1) fun v15 => obind (aLoad false 1 v15 h4) fun v16 => obind (aFieldAddr 2 v3) fun v17 => obind (aLoad false 1 v17 h4) fun v18 => obind (aCmp .neq .plain v16 v18) fun v19 => condB v19 (some ((bv false), h4)) (some ((bv true), h4)))) := by kernel_rfl
theorem hb_spec_l18First : HasBody Tryd.prog n_spec_l18First := ⟨Tryd.f76, _, Tryd.func76, rfl, by decide⟩
theorem e_spec_l18First (env : Nat → Contract) (x0 : AV) (h : Heap) : denFn Tryd.prog env n_spec_l18First [x0] h = obind (aCmp .eql .plain x0 (sv ⟨#[]⟩)) fun v1 => obind2 (guardB v1 false (obind2 (aCall (env n_spec_IsWord) [x0] h) fun v2 h3 => some (v2, h3)) (some (und, h))) fun v4 h5 => obind (aPick v1 (bv true) v4) fun v6 => some (v6, h5) := by kernel_rfl
noncomputable abbrev c_spec_IsWord : Code := (Tryd.f77.body).getD .skip
noncomputable abbrev nm_spec_IsWord : List Bool := namedOf Tryd.f77
theorem hb_spec_IsWord : HasBody Tryd.prog n_spec_IsWord := ⟨Tryd.f77, _, Tryd.func77, rfl, by decide⟩
abbrev hm0_spec_IsWord : List Bool := [true, true, false, true, false, false, false, false, false, false, false, false, false, false, false, true, true, true]
abbrev xm0_spec_IsWord : List Bool := [true, true, true, true, false, false, false, false, false, false, false, false, false, false, false, true, true, true]
noncomputable def lb0_spec_IsWord (env : Nat → Contract) : TM → Heap → Option Res := fun tm h => denC Tryd.prog env nm_spec_IsWord (atrlrll c_spec_IsWord) Res tm h fun e tm h => some (e, tm, h)
noncomputable def lk0_spec_IsWord (env : Nat → Contract) : AX → TM → Heap → Option (AV × Heap) := (kBlock 0 (kSeq Tryd.prog env nm_spec_IsWord (atrr c_spec_IsWord) _ (kRet Tryd.prog Tryd.f77.results.toList)))
theorem e_spec_IsWord (env : Nat → Contract) (x0 : AV) (h : Heap) : denFn Tryd.prog env n_spec_IsWord [x0] h = obind (loopP hm0_spec_IsWord xm0_spec_IsWord (lb0_spec_IsWord env) [x0, und, .top, (iv 0), .top, .top, .top, .top, .top, .top, .top, .top, .top, .top, .top, und, und, und] h) fun r => lk0_spec_IsWord env r.1 r.2.1 r.2.2 := by kernel_rfl
theorem e_lb0_spec_IsWord (env : Nat → Contract) (y0 y1 y3 y15 y16 y17 : AV) (h : Heap) : lb0_spec_IsWord env [y0, y1, .top, y3, .top, .top, .top, .top, .top, .top, .top, .top, .top, .top, .top, y15, y16, y17] h = obind (aLenK .str y0) fun v1 => obind (aBin .lss y3 v1) fun v2 => condB v2 (obind (aIndexStr y0 y3) fun v3 => obind2 (aCall (env n_spec_l01Small) [v3] h) fun v4 h5 => obind (aUn .not v4) fun v6 => condB v6 (some (.ret, [y0, y1, (bv false), y3, y3, y0, v1, v2, .top, .top, y0, y3, v3, v4, v6, y15, y16, y17], h5)) (obind (aBin .add y3 (iv 1)) fun v7 => some (.normal, [y0, y1, .top, v7, y3, y0, v1, v2, y3, v7, y0, y3, v3, v4, v6, y15, y16, y17], h5))) (some (.exit 0, [y0, y1, .top, y3, y3, y0, v1, v2, .top, .top, .top, .top, .top, .top, .top, y15, y16, y17], h)) := by kernel_rfl
theorem e_lk0x0_spec_IsWord (env : Nat → Contract) (z0 z1 z2 z3 z15 z16 z17 : AV) (h : Heap) : lk0_spec_IsWord env (.exit 0) [z0, z1, z2, z3, .top, .top, .top, .top, .top, .top, .top, .top, .top, .top, .top, z15, z16, z17] h = obind (aLenK .str z0) fun v8 => obind2 (aCall (env n_spec_l00In) [v8, (iv 1), (iv 10)] h) fun v9 h10 => some (v9, h10) := by kernel_rfl
theorem e_lk0r_spec_IsWord (env : Nat → Contract) (z0 z1 z2 z3 z15 z16 z17 : AV) (h : Heap) : lk0_spec_IsWord env .ret [z0, z1, z2, z3, .top, .top, .top, .top, .top, .top, .top, .top, .top, .top, .top, z15, z16, z17] h = some (z2, h) := by kernel_rfl
noncomputable abbrev c_impl_IsWord : Code := (Tryd.f78.body).getD .skip
noncomputable abbrev nm_impl_IsWord : List Bool := namedOf Tryd.f78
theorem hb_impl_IsWord : HasBody Tryd.prog n_impl_IsWord := ⟨Tryd.f78, _, Tryd.func78, rfl, by decide⟩
abbrev hm0_impl_IsWord : List Bool := [true, true, false, true, false, true, true, true, true, false, false, false, false, false, false, false, true, true, true, true, true, true, true, true]
abbrev xm0_impl_IsWord : List Bool := [true, true, true, true, true, true, true, true, false, false, false, false, false, false, false, false, true, true, true, true, true, true, true, true]
noncomputable def lb0_impl_IsWord (env : Nat → Contract) : TM → Heap → Option Res := fun tm h => denC Tryd.prog env nm_impl_IsWord (atrlrll c_impl_IsWord) Res tm h fun e tm h => some (e, tm, h)
noncomputable def lk0_impl_IsWord (env : Nat → Contract) : AX → TM → Heap → Option (AV × Heap) := (kBlock 0 (kSeq Tryd.prog env nm_impl_IsWord (atrr c_impl_IsWord) _ (kRet Tryd.prog Tryd.f78.results.toList)))
theorem e_impl_IsWord (env : Nat → Contract) (x0 : AV) (h : Heap) : denFn Tryd.prog env n_impl_IsWord [x0] h = obind2 (aConvBytes x0 h) fun v1 h2 => obind (aLenK .slice v1) fun v3 => obind (loopP hm0_impl_IsWord xm0_impl_IsWord (lb0_impl_IsWord env) [x0, und, .top, und, .top, x0, v1, v3, (iv 0), .top, .top, .top, .top, .top, .top, .top, und, und, und, und, und, und, und, und] h2) fun r => lk0_impl_IsWord env r.1 r.2.1 r.2.2 := by kernel_rfl
theorem e_lb0_impl_IsWord (env : Nat → Contract) (y0 y1 y3 y5 y6 y7 y8 y16 y17 y18 y19 y20 y21 y22 y23 : AV) (h : Heap) : lb0_impl_IsWord env [y0, y1, .top, y3, .top, y5, y6, y7, y8, .top, .top, .top, .top, .top, .top, .top, y16, y17, y18, y19, y20, y21, y22, y23] h = obind (aBin .lss y8 y7) fun v4 => condB v4 (obind (aIndexAddr 1 y6 y8 h) fun v5 => obind (aLoad false 1 v5 h) fun v6 => obind2 (aCall (env n_impl_isLetter) [v6] h) fun v7 h8 => obind (aUn .not v7) fun v9 => condB v9 (some (.ret, [y0, y1, (bv false), y3, v6, y5, y6, y7, y8, v4, v5, v6, v6, v7, v9, .top, y16, y17, y18, y19, y20, y21, y22, y23], h8)) (obind (aBin .add y8 (iv 1)) fun v10 => some (.normal, [y0, y1, .top, y3, v6, y5, y6, y7, v10, v4, v5, v6, v6, v7, v9, v10, y16, y17, y18, y19, y20, y21, y22, y23], h8))) (some (.exit 0, [y0, y1, .top, y3, .top, y5, y6, y7, y8, v4, .top, .top, .top, .top, .top, .top, y16, y17, y18, y19, y20, y21, y22, y23], h)) := by kernel_rfl
theorem e_lk0x0_impl_IsWord (env : Nat → Contract) (z0 z1 z2 z3 z4 z5 z6 z7 z16 z17 z18 z19 z20 z21 z22 z23 : AV) (h : Heap) : lk0_impl_IsWord env (.exit 0) [z0, z1, z2, z3, z4, z5, z6, z7, .top, .top, .top, .top, .top, .top, .top, .top, z16, z17, z18, z19, z20, z21, z22, z23] h = obind (aLenK .str z0) fun v11 => obind (aBin .geq v11 (iv 1)) fun v12 => obind2 (guardB v12 true (obind (aLenK .str z0) fun v13 => obind (aBin .leq v13 (iv 10)) fun v14 => some (v14, h)) (some (und, h))) fun v15 h16 => obind (aPick v12 v15 (bv false)) fun v17 => some (v17, h16) := by kernel_rfl
theorem e_lk0r_impl_IsWord (env : Nat → Contract) (z0 z1 z2 z3 z4 z5 z6 z7 z16 z17 z18 z19 z20 z21 z22 z23 : AV) (h : Heap) : lk0_impl_IsWord env .ret [z0, z1, z2, z3, z4, z5, z6, z7, .top, .top, .top, .top, .top, .top, .top, .top, z16, z17, z18, z19, z20, z21, z22, z23] h = some (z2, h) := by kernel_rfl
noncomputable abbrev c_cmp_Or_int : Code := (Tryd.f79.body).getD .skip
noncomputable abbrev nm_cmp_Or_int : List Bool := namedOf Tryd.f79
theorem hb_cmp_Or_int : HasBody Tryd.prog n_cmp_Or_int := ⟨Tryd.f79, _, Tryd.func79, rfl, by decide⟩
abbrev hm0_cmp_Or_int : List Bool := [true, true, false, true, true, false, true, true, true, false, false, false, false, false, false, false, false, true]
abbrev xm0_cmp_Or_int : List Bool := [true, true, true, true, true, true, true, true, false, false, false, false, false, false, false, false, false, true]
noncomputable def lb0_cmp_Or_int (env : Nat → Contract) : TM → Heap → Option Res := fun tm h => denC Tryd.prog env nm_cmp_Or_int (atrrlrll c_cmp_Or_int) Res tm h fun e tm h => some (e, tm, h)
noncomputable def lk0_cmp_Or_int (env : Nat → Contract) : AX → TM → Heap → Option (AV × Heap) := (kBlock 0 (kSeq Tryd.prog env nm_cmp_Or_int (atrrr c_cmp_Or_int) _ (kRet Tryd.prog Tryd.f79.results.toList)))
theorem e_cmp_Or_int (env : Nat → Contract) (x0 : AV) (h : Heap) : denFn Tryd.prog env n_cmp_Or_int [x0] h = obind (aLenK .slice x0) fun v1 => obind (loopP hm0_cmp_Or_int xm0_cmp_Or_int (lb0_cmp_Or_int env) [x0, und, .top, (iv 0), und, .top, x0, v1, (iv 0), .top, .top, .top, .top, .top, .top, .top, .top, und] h) fun r => lk0_cmp_Or_int env r.1 r.2.1 r.2.2 := by kernel_rfl
theorem e_lb0_cmp_Or_int (env : Nat → Contract) (y0 y1 y3 y4 y6 y7 y8 y17 : AV) (h : Heap) : lb0_cmp_Or_int env [y0, y1, .top, y3, y4, .top, y6, y7, y8, .top, .top, .top, .top, .top, .top, .top, .top, y17] h = obind (aBin .lss y8 y7) fun v2 => condB v2 (obind (aIndexAddr 1 y6 y8 h) fun v3 => obind (aLoad false 1 v3 h) fun v4 => obind (aCmp .neq .plain v4 y3) fun v5 => condB v5 (some (.ret, [y0, y1, v4, y3, y4, v4, y6, y7, y8, v2, v3, v4, v4, y3, v5, v4, .top, y17], h)) (obind (aBin .add y8 (iv 1)) fun v6 => some (.normal, [y0, y1, .top, y3, y4, v4, y6, y7, v6, v2, v3, v4, v4, y3, v5, .top, v6, y17], h))) (some (.exit 0, [y0, y1, .top, y3, y4, .top, y6, y7, y8, v2, .top, .top, .top, .top, .top, .top, .top, y17], h)) := by kernel_rfl
theorem e_lk0x0_cmp_Or_int (env : Nat → Contract) (z0 z1 z2 z3 z4 z5 z6 z7 z17 : AV) (h : Heap) : lk0_cmp_Or_int env (.exit 0) [z0, z1, z2, z3, z4, z5, z6, z7, .top, .top, .top, .top, .top, .top, .top, .top, .top, z17] h = some (z3, h) := by kernel_rfl
theorem e_lk0r_cmp_Or_int (env : Nat → Contract) (z0 z1 z2 z3 z4 z5 z6 z7 z17 : AV) (h : Heap) : lk0_cmp_Or_int env .ret [z0, z1, z2, z3, z4, z5, z6, z7, .top, .top, .top, .top, .top, .top, .top, .top, .top, z17] h = some (z2, h) := by kernel_rfl
theorem hb_cmp_Compare_string : HasBody Tryd.prog n_cmp_Compare_string := ⟨Tryd.f80, _, Tryd.func80, rfl, by decide⟩
theorem e_cmp_Compare_string (env : Nat → Contract) (x0 x1 : AV) (h : Heap) : denFn Tryd.prog env n_cmp_Compare_string [x0, x1] h = obind2 (aCall (env n_cmp_isNaN_string) [x0] h) fun v1 h2 => obind2 (aCall (env n_cmp_isNaN_string) [x1] h2) fun v3 h4 => condB v1 (condB v3 (some ((iv 0), h4)) (some ((iv (-1)), h4))) (condB v3 (some ((iv 1), h4)) (obind (aBin .lss x0 x1) fun v5 => condB v5 (some ((iv (-1)), h4)) (obind (aBin .gtr x0 x1) fun v6 => condB v6 (some ((iv 1), h4)) (some ((iv 0), h4))))) := by kernel_rfl
theorem hb_impl_within : HasBody Tryd.prog n_impl_within := ⟨Tryd.f81, _, Tryd.func81, rfl, by decide⟩
theorem e_impl_within (env : Nat → Contract) (x0 x1 x2 : AV) (h : Heap) : denFn Tryd.prog env n_impl_within [x0, x1, x2] h = obind (aBin .geq x0 x1) fun v1 => obind2 (guardB v1 true (obind (aBin .leq x0 x2) fun v2 => some (v2, h)) (some (und, h))) fun v3 h4 => obind (aPick v1 v3 (bv false)) fun v5 => some (v5, h4) := by kernel_rfl
theorem hb_impl_isLetter : HasBody Tryd.prog n_impl_isLetter := ⟨Tryd.f86, _, Tryd.func86, rfl, by decide⟩
theorem e_impl_isLetter (env : Nat → Contract) (x0 : AV) (h : Heap) : denFn Tryd.prog env n_impl_isLetter [x0] h = obind (aBin .geq x0 (.sc (.int .u8 97))) fun v1 => obind2 (guardB v1 true (obind (aBin .leq x0 (.sc (.int .u8 122))) fun v2 => some (v2, h)) (some (und, h))) fun v3 h4 => obind (aPick v1 v3 (bv false)) fun v5 => some (v5, h4) := by kernel_rfl
theorem hb_spec_l01Small : HasBody Tryd.prog n_spec_l01Small := ⟨Tryd.f95, _, Tryd.func95, rfl, by decide⟩
theorem e_spec_l01Small (env : Nat → Contract) (x0 : AV) (h : Heap) : denFn Tryd.prog env n_spec_l01Small [x0] h = obind (aBin .geq x0 (.sc (.int .u8 97))) fun v1 => obind2 (guardB v1 true (obind (aBin .leq x0 (.sc (.int .u8 122))) fun v2 => some (v2, h)) (some (und, h))) fun v3 h4 => obind (aPick v1 v3 (bv false)) fun v5 => some (v5, h4) := by kernel_rfl
theorem hb_cmp_isNaN_string : HasBody Tryd.prog n_cmp_isNaN_string := ⟨Tryd.f96, _, Tryd.func96, rfl, by decide⟩
theorem e_cmp_isNaN_string (env : Nat → Contract) (x0 : AV) (h : Heap) : denFn Tryd.prog env n_cmp_isNaN_string [x0] h = obind (aCmp .neq .plain x0 x0) fun v1 => some (v1, h) := by kernel_rfl
section
open Go.Proofs Go.Shelf
def layFmt_ren : Go.Shelf.Ren := ⟨fun | 173 => 60 | 246 => 83 | 283 => 97 | 284 => 98 | 285 => 99 | 286 => 100 | 129 => 110 | 317 => 109 | 318 => 111 | 319 => 112 | 320 => 113 | 337 => 123 | 338 => 124 | n => n, fun | 2 => 2 | 3 => 3 | 9 => 9 | 4 => 4 | 171 => 122 | 0 => 0 | 53 => 123 | 37 => 54 | 5 => 5 | 173 => 126 | 212 => 138 | 51 => 139 | 20 => 20 | 213 => 140 | 46 => 132 | 232 => 156 | 233 => 157 | n => n, fun | 17 => 0 | 18 => 4 | 19 => 5 | n => n⟩
theorem layFmt : Go.Proofs.LaysM.n173 Tryd.prog layFmt_ren := {
  mixed := by kernel_rfl
  f129 := Tryd.func110.trans (congrArg some (by kernel_rfl))
  f173 := Tryd.func60.trans (congrArg some (by kernel_rfl))
  f246 := Tryd.func83.trans (congrArg some (by kernel_rfl))
  f283 := Tryd.func97.trans (congrArg some (by kernel_rfl))
  f284 := Tryd.func98.trans (congrArg some (by kernel_rfl))
  f285 := Tryd.func99.trans (congrArg some (by kernel_rfl))
  f286 := Tryd.func100.trans (congrArg some (by kernel_rfl))
  f317 := Tryd.func109.trans (congrArg some (by kernel_rfl))
  f318 := Tryd.func111.trans (congrArg some (by kernel_rfl))
  f319 := Tryd.func112.trans (congrArg some (by kernel_rfl))
  f320 := Tryd.func113.trans (congrArg some (by kernel_rfl))
  f337 := Tryd.func123.trans (congrArg some (by kernel_rfl))
  f338 := Tryd.func124.trans (congrArg some (by kernel_rfl))
  t0 := Tryd.underlying0
  a0 := Tryd.isAgg0
  z0 := Tryd.sizeOf0
  v0 := Tryd.zeroValue0
  t2 := Tryd.underlying2
  a2 := Tryd.isAgg2
  z2 := Tryd.sizeOf2
  v2 := Tryd.zeroValue2
  t3 := Tryd.underlying3
  a3 := Tryd.isAgg3
  z3 := Tryd.sizeOf3
  v3 := Tryd.zeroValue3
  t4 := Tryd.underlying4
  a4 := Tryd.isAgg4
  z4 := Tryd.sizeOf4
  v4 := Tryd.zeroValue4
  t5 := Tryd.underlying5
  a5 := Tryd.isAgg5
  z5 := Tryd.sizeOf5
  v5 := Tryd.zeroValue5
  t9 := Tryd.underlying9
  a9 := Tryd.isAgg9
  z9 := Tryd.sizeOf9
  v9 := Tryd.zeroValue9
  t20 := Tryd.underlying20
  a20 := Tryd.isAgg20
  z20 := Tryd.sizeOf20
  v20 := Tryd.zeroValue20
  t37 := Tryd.underlying54
  a37 := Tryd.isAgg54
  z37 := Tryd.sizeOf54
  v37 := Tryd.zeroValue54
  t46 := Tryd.underlying132
  a46 := Tryd.isAgg132
  z46 := Tryd.sizeOf132
  v46 := Tryd.zeroValue132
  t51 := Tryd.underlying139
  a51 := Tryd.isAgg139
  z51 := Tryd.sizeOf139
  v51 := Tryd.zeroValue139
  t53 := Tryd.underlying123
  a53 := Tryd.isAgg123
  z53 := Tryd.sizeOf123
  v53 := Tryd.zeroValue123
  t171 := Tryd.underlying122
  a171 := Tryd.isAgg122
  z171 := Tryd.sizeOf122
  v171 := Tryd.zeroValue122
  t173 := Tryd.underlying126
  a173 := Tryd.isAgg126
  z173 := Tryd.sizeOf126
  v173 := Tryd.zeroValue126
  t212 := Tryd.underlying138
  a212 := Tryd.isAgg138
  z212 := Tryd.sizeOf138
  v212 := Tryd.zeroValue138
  t213 := Tryd.underlying140
  a213 := Tryd.isAgg140
  z213 := Tryd.sizeOf140
  t232 := Tryd.underlying156
  a232 := Tryd.isAgg156
  z232 := Tryd.sizeOf156
  v232 := Tryd.zeroValue156
  t233 := Tryd.underlying157
  a233 := Tryd.isAgg157
  z233 := Tryd.sizeOf157
  v233 := Tryd.zeroValue157
  g17 := by kernel_rfl
  g18 := by kernel_rfl
  g19 := by kernel_rfl
  i0 := by kernel_rfl
  i2 := by kernel_rfl
  i3 := by kernel_rfl
  i4 := by kernel_rfl
  i5 := by kernel_rfl
  i9 := by kernel_rfl
  i20 := by kernel_rfl
  i37 := by kernel_rfl
  i46 := by kernel_rfl
  i51 := by kernel_rfl
  i53 := by kernel_rfl
  i171 := by kernel_rfl
  i173 := by kernel_rfl
  i212 := by kernel_rfl
  i232 := by kernel_rfl
  i233 := by kernel_rfl
  m17 := by kernel_rfl
  m18 := by kernel_rfl
  m19 := by kernel_rfl }
def layBStr_ren : Go.Shelf.Ren := ⟨fun | 169 => 32 | n => n, fun | 70 => 53 | 9 => 9 | 0 => 0 | 72 => 56 | 37 => 54 | 127 => 102 | 3 => 3 | 5 => 5 | n => n, fun | n => n⟩
theorem layBStr : Go.Proofs.Lays.n169 Tryd.prog layBStr_ren := {
  mixed := by kernel_rfl
  f169 := Tryd.func32.trans (congrArg some (by kernel_rfl))
  t0 := Tryd.underlying0
  a0 := Tryd.isAgg0
  z0 := Tryd.sizeOf0
  v0 := Tryd.zeroValue0
  t3 := Tryd.underlying3
  a3 := Tryd.isAgg3
  z3 := Tryd.sizeOf3
  v3 := Tryd.zeroValue3
  t9 := Tryd.underlying9
  a9 := Tryd.isAgg9
  z9 := Tryd.sizeOf9
  v9 := Tryd.zeroValue9
  t37 := Tryd.underlying54
  a37 := Tryd.isAgg54
  z37 := Tryd.sizeOf54
  v37 := Tryd.zeroValue54
  t70 := Tryd.underlying53
  a70 := Tryd.isAgg53
  z70 := Tryd.sizeOf53
  v70 := Tryd.zeroValue53
  t72 := Tryd.underlying56
  a72 := Tryd.isAgg56
  z72 := Tryd.sizeOf56
  v72 := Tryd.zeroValue56
  t127 := Tryd.underlying102
  a127 := Tryd.isAgg102
  z127 := Tryd.sizeOf102
  v127 := Tryd.zeroValue102 }
end
end Go.Proofs.YtielmmmoldloeaaDoor
