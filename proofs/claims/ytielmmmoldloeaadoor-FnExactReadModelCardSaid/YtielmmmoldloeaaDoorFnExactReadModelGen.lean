/-
  The runs of the functions of this seat, in open form. Printed by a program of mine (gen.py).
-/
import Derived.Test.YtielmmmoldloeaaDoorProg
import Derived.Test.YtielmmmoldloeaaDoorEngDat2
import Derived.WalkKit
import Derived.BigCall
import Derived.Deep.RegionHeld3
import Derived.Shelf.Strings.BuilderF
import Derived.Shelf.Strings.BuilderK
import Derived.Shelf.Strings.MapGrows
import Derived.Lib.IndexBytes
import Derived.Shelf.Strings.Split
import Derived.Lib.ParseIntBCases
import Derived.Lib.ParseIntBTie
import Derived.Lib.ItoaMem
import Derived.Lib.ParseIntBCases
import Derived.Lib.ParseIntBTie
import Derived.Lib.ItoaMem
import Derived.Shelf.Strconv.Itoa4
import Derived.Shelf.Strings.Split
import Derived.Shelf.Strings.Prefix
import Derived.Shelf.Strconv.ParseIntPublic10
import Derived.Shelf.Strings.BuilderF
namespace Go.Proofs.YtielmmmoldloeaaDoor
open Go Go.Eng
set_option linter.unusedVariables false

@[simp] abbrev n_laws_FnExactModelText : Nat := 3
@[simp] abbrev n_laws_FnExactSymbolsText : Nat := 4
@[simp] abbrev n_laws_FnExactReadSymbols : Nat := 5
@[simp] abbrev n_laws_FnExactReadModel : Nat := 6
@[simp] abbrev n_laws_szModel : Nat := 7
@[simp] abbrev n_spec_ModelText : Nat := 8
@[simp] abbrev n_laws_toModel : Nat := 9
@[simp] abbrev n_impl_ModelText : Nat := 10
@[simp] abbrev n_laws_eqModel : Nat := 11
@[simp] abbrev n_laws_szSymbolS : Nat := 12
@[simp] abbrev n_spec_SymbolsText : Nat := 13
@[simp] abbrev n_laws_toSymbolS : Nat := 14
@[simp] abbrev n_impl_SymbolsText : Nat := 15
@[simp] abbrev n_laws_eqSymbolS : Nat := 16
@[simp] abbrev n_spec_ReadSymbols : Nat := 17
@[simp] abbrev n_impl_ReadSymbols : Nat := 18
@[simp] abbrev n_laws_markSymbolS : Nat := 19
@[simp] abbrev n_laws_heldSymbolS : Nat := 20
@[simp] abbrev n_spec_ReadModel : Nat := 21
@[simp] abbrev n_impl_ReadModel : Nat := 22
@[simp] abbrev n_laws_markModel : Nat := 23
@[simp] abbrev n_laws_heldModel : Nat := 24
@[simp] abbrev n_laws_szBigramS : Nat := 25
@[simp] abbrev n_spec_l18Ok : Nat := 26
@[simp] abbrev n_spec_l18Text : Nat := 27
@[simp] abbrev n_laws_toBigramS : Nat := 28
@[simp] abbrev n_impl_ValidModel : Nat := 29
@[simp] abbrev n_strings_Builder_WriteString : Nat := 30
@[simp] abbrev n_impl_Decimal : Nat := 31
@[simp] abbrev n_strings_Builder_String : Nat := 32
@[simp] abbrev n_laws_eqBigramS : Nat := 33
@[simp] abbrev n_laws_szSymbol : Nat := 34
@[simp] abbrev n_spec_l20Ok : Nat := 35
@[simp] abbrev n_spec_l20Text : Nat := 36
@[simp] abbrev n_laws_toSymbol : Nat := 37
@[simp] abbrev n_impl_ValidSymbols : Nat := 38
@[simp] abbrev n_laws_eqSymbol : Nat := 39
@[simp] abbrev n_spec_l01Split : Nat := 40
@[simp] abbrev n_spec_l20Line : Nat := 41
@[simp] abbrev n_impl_linesOf : Nat := 42
@[simp] abbrev n_impl_wordsOf : Nat := 43
@[simp] abbrev n_impl_ReadDecimal : Nat := 44
@[simp] abbrev n_laws_markText : Nat := 45
@[simp] abbrev n_spec_l18Read : Nat := 46
@[simp] abbrev n_strings_TrimPrefix : Nat := 47
@[simp] abbrev n_laws_markBigramS : Nat := 48
@[simp] abbrev n_laws_heldBigramS : Nat := 49
@[simp] abbrev n_laws_szBigram : Nat := 50
@[simp] abbrev n_spec_l18Bigram : Nat := 51
@[simp] abbrev n_spec_l18Before : Nat := 52
@[simp] abbrev n_spec_l00In : Nat := 53
@[simp] abbrev n_spec_l01Dec : Nat := 54
@[simp] abbrev n_laws_toBigram : Nat := 55
@[simp] abbrev n_impl_validBigram : Nat := 56
@[simp] abbrev n_impl_compareBigrams : Nat := 57
@[simp] abbrev n_impl_isCost : Nat := 58
@[simp] abbrev n_strings_Builder_copyCheck : Nat := 59
@[simp] abbrev n_strconv_FormatInt : Nat := 60
@[simp] abbrev n_laws_eqBigram : Nat := 61
@[simp] abbrev n_spec_IsLabel : Nat := 62
@[simp] abbrev n_spec_l02Box : Nat := 63
@[simp] abbrev n_laws_toBox : Nat := 64
@[simp] abbrev n_slices_ContainsFunc_impl_Symbol_impl_Symbol : Nat := 65
@[simp] abbrev n_impl_ValidSymbols_1 : Nat := 66
@[simp] abbrev n_impl_IsLabel : Nat := 67
@[simp] abbrev n_impl_ValidBox : Nat := 68
@[simp] abbrev n_laws_eqBox : Nat := 69
@[simp] abbrev n_spec_l01Number : Nat := 70
@[simp] abbrev n_strings_HasSuffix : Nat := 71
@[simp] abbrev n_strings_Split : Nat := 72
@[simp] abbrev n_strings_TrimSuffix : Nat := 73
@[simp] abbrev n_strconv_ParseInt : Nat := 74
@[simp] abbrev n_internal_stringslite_TrimPrefix : Nat := 75
@[simp] abbrev n_spec_l18First : Nat := 76
@[simp] abbrev n_spec_IsWord : Nat := 77
@[simp] abbrev n_impl_IsWord : Nat := 78
@[simp] abbrev n_cmp_Or_int : Nat := 79
@[simp] abbrev n_cmp_Compare_string : Nat := 80
@[simp] abbrev n_impl_within : Nat := 81
@[simp] abbrev n_internal_strconv_FormatInt : Nat := 83
@[simp] abbrev n_spec_l11Label : Nat := 84
@[simp] abbrev n_slices_IndexFunc_impl_Symbol_impl_Symbol : Nat := 85
@[simp] abbrev n_impl_isLetter : Nat := 86
@[simp] abbrev n_strings_Contains : Nat := 87
@[simp] abbrev n_spec_l01Digit : Nat := 88
@[simp] abbrev n_internal_stringslite_HasSuffix : Nat := 89
@[simp] abbrev n_strings_genSplit : Nat := 90
@[simp] abbrev n_internal_stringslite_TrimSuffix : Nat := 91
@[simp] abbrev n_internal_strconv_ParseInt : Nat := 92
@[simp] abbrev n_strconv_toError : Nat := 93
@[simp] abbrev n_internal_stringslite_HasPrefix : Nat := 94
@[simp] abbrev n_spec_l01Small : Nat := 95
@[simp] abbrev n_cmp_isNaN_string : Nat := 96
@[simp] abbrev n_internal_strconv_small : Nat := 97
@[simp] abbrev n_internal_strconv_numDigits : Nat := 98
@[simp] abbrev n_internal_strconv_formatBase10 : Nat := 99
@[simp] abbrev n_internal_strconv_formatBits : Nat := 100
@[simp] abbrev n_strings_Index : Nat := 101
@[simp] abbrev n_strings_explode : Nat := 102
@[simp] abbrev n_strings_Count : Nat := 103
@[simp] abbrev n_internal_strconv_ParseUint : Nat := 104
@[simp] abbrev n_strconv_syntaxError : Nat := 105
@[simp] abbrev n_strconv_rangeError : Nat := 106
@[simp] abbrev n_strconv_baseError : Nat := 107
@[simp] abbrev n_strconv_bitSizeError : Nat := 108
@[simp] abbrev n_internal_strconv_log10Pow2 : Nat := 109
@[simp] abbrev n_math_bits_Len64 : Nat := 110
@[simp] abbrev n_internal_strconv_bool2_int : Nat := 111
@[simp] abbrev n_internal_strconv_isPowerOfTwo : Nat := 112
@[simp] abbrev n_math_bits_TrailingZeros : Nat := 113
@[simp] abbrev n_internal_stringslite_Index : Nat := 114
@[simp] abbrev n_unicode_utf8_RuneCountInString : Nat := 115
@[simp] abbrev n_unicode_utf8_DecodeRuneInString : Nat := 116
@[simp] abbrev n_internal_bytealg_CountString : Nat := 117
@[simp] abbrev n_internal_strconv_lower : Nat := 118
@[simp] abbrev n_internal_strconv_underscoreOK : Nat := 119
@[simp] abbrev n_internal_stringslite_Clone : Nat := 120
@[simp] abbrev n_errors_New : Nat := 121
@[simp] abbrev n_strconv_Itoa : Nat := 122
@[simp] abbrev n_math_bits_TrailingZeros32 : Nat := 123
@[simp] abbrev n_math_bits_TrailingZeros64 : Nat := 124
@[simp] abbrev n_internal_stringslite_IndexByte : Nat := 125
@[simp] abbrev n_internal_bytealg_IndexString : Nat := 126
@[simp] abbrev n_internal_bytealg_Cutover : Nat := 127
@[simp] abbrev n_internal_bytealg_IndexRabinKarp_string : Nat := 128
@[simp] abbrev n_unicode_utf8_decodeRuneInStringSlow : Nat := 129
@[simp] abbrev n_internal_strconv_Itoa : Nat := 130
@[simp] abbrev n_internal_bytealg_IndexByteString : Nat := 131
@[simp] abbrev n_internal_bytealg_hashStr_string : Nat := 132
@[simp] abbrev n_gosem_cut_vars : Nat := 162
theorem mixed : Tryd.prog.follows .mixedOrders = true := by kernel_rfl
abbrev atrr (c : Code) : Code := (codeR (codeR c))
abbrev atrrr (c : Code) : Code := (codeR (codeR (codeR c)))
abbrev atrrrr (c : Code) : Code := (codeR (codeR (codeR (codeR c))))
abbrev atrlrll (c : Code) : Code := (codeL (codeL (codeR (codeL (codeR c)))))
abbrev atrrrrr (c : Code) : Code := (codeR (codeR (codeR (codeR (codeR c)))))
abbrev atrrlrll (c : Code) : Code := (codeL (codeL (codeR (codeL (codeR (codeR c))))))
abbrev atrrrlll (c : Code) : Code := (codeL (codeL (codeL (codeR (codeR (codeR c))))))
abbrev atrrrrrr (c : Code) : Code := (codeR (codeR (codeR (codeR (codeR (codeR c))))))
abbrev atrrrlrll (c : Code) : Code := (codeL (codeL (codeR (codeL (codeR (codeR (codeR c)))))))
abbrev atrrrrlrll (c : Code) : Code := (codeL (codeL (codeR (codeL (codeR (codeR (codeR (codeR c))))))))
abbrev atrrrrrlrll (c : Code) : Code := (codeL (codeL (codeR (codeL (codeR (codeR (codeR (codeR (codeR c)))))))))
abbrev atrrrrrrrrr (c : Code) : Code := (codeR (codeR (codeR (codeR (codeR (codeR (codeR (codeR (codeR c)))))))))
abbrev atrrrrrrrrlll (c : Code) : Code := (codeL (codeL (codeL (codeR (codeR (codeR (codeR (codeR (codeR (codeR (codeR c)))))))))))
theorem hb_laws_FnExactReadModel : HasBody Tryd.prog n_laws_FnExactReadModel := ⟨Tryd.f6, _, Tryd.func6, rfl, by decide⟩
theorem e_laws_FnExactReadModel (env : Nat → Contract) (x0 : AV) (h : Heap) : denFn Tryd.prog env n_laws_FnExactReadModel [x0] h = obind (aLenK .str x0) fun v1 => obind (aBin .gtr v1 (iv 1048576)) fun v2 => condB v2 (some ((bv true), h)) (obind2 (aCall (env n_spec_ReadModel) [x0] h) fun v3 h4 => obind (aExtract v3 0) fun v5 => obind (aExtract v3 1) fun v6 => obind2 (aBox [(iv 0), nilS] h4) fun v7 h8 => obind (aStore 2 v7 v5 h8) fun h9 => obind2 (aCall (env n_impl_ReadModel) [x0] h9) fun v10 h11 => obind (aExtract v10 0) fun v12 => obind (aExtract v10 1) fun v13 => obind2 (aBox [(iv 0), nilS] h11) fun v14 h15 => obind (aStore 2 v14 v12 h15) fun h16 => obind (aLoad true 2 v14 h16) fun v17 => obind (aLoad true 2 v7 h16) fun v18 => obind2 (aCall (env n_laws_eqModel) [v17, v18] h16) fun v19 h20 => obind (aUn .not v19) fun v21 => obind2 (guardB v21 false (obind (aCmp .neq .bool v13 v6) fun v22 => some (v22, h20)) (some (und, h20))) fun v23 h24 => obind (aPick v21 (bv true) v23) fun v25 => condB v25 (some ((bv false), h24)) (obind (aLoad true 2 v14 h24) fun v26 => obind2 (aCall (env n_laws_markModel) [v26, (iv 1)] h24) fun v27 h28 => obind (aLoad true 2 v14 h28) fun v29 => obind2 (aCall (env n_laws_heldModel) [v29, (iv 1)] h28) fun v30 h31 => obind (aBin .lss v30 (iv 0)) fun v32 => condB v32 (some ((bv false), h31)) (obind (aCmp .neq .plain v30 v27) fun v33 => condB v33 (some ((bv false), h31)) (obind2 (aCall (env n_impl_ReadModel) [x0] h31) fun v34 h35 => obind (aExtract v34 0) fun v36 => obind (aExtract v34 1) fun v37 => obind2 (aBox [(iv 0), nilS] h35) fun v38 h39 => obind (aStore 2 v38 v36 h39) fun h40 => obind (aLoad true 2 v38 h40) fun v41 => obind (aLoad true 2 v7 h40) fun v42 => obind2 (aCall (env n_laws_eqModel) [v41, v42] h40) fun v43 h44 => obind (aUn .not v43) fun v45 => obind2 (guardB v45 false (obind (aCmp .neq .bool v37 v6) fun v46 => some (v46, h44)) (some (und, h44))) fun v47 h48 => obind (aPick v45 (bv true) v47) fun v49 => condB v49 (some ((bv false), h48)) (obind (aLoad true 2 v14 h48) fun v50 => obind2 (aCall (env n_laws_heldModel) [v50, (iv 1)] h48) fun v51 h52 => obind (aBin .lss v51 (iv 0)) fun v53 => condB v53 (some ((bv false), h52)) (obind (aCmp .neq .plain v51 v27) fun v54 => condB v54 (some ((bv false), h52)) (some ((bv true), h52)))))))) := by kernel_rfl
theorem hb_laws_eqModel : HasBody Tryd.prog n_laws_eqModel := ⟨Tryd.f11, _, Tryd.func11, rfl, by decide⟩
theorem e_laws_eqModel (env : Nat → Contract) (x0 x1 : AV) (h : Heap) : denFn Tryd.prog env n_laws_eqModel [x0, x1] h = obind2 (aBox (AV.cells x0) h) fun v1 h2 => obind2 (aBox (AV.cells x1) h2) fun v3 h4 => obind (aFieldAddr 0 v1) fun v5 => obind (aLoad false 1 v5 h4) fun v6 => obind (aFieldAddr 0 v3) fun v7 => obind (aLoad false 1 v7 h4) fun v8 => obind (aCmp .neq .plain v6 v8) fun v9 => condB v9 (some ((bv false), h4)) (obind (aFieldAddr 1 v1) fun v10 => obind (aLoad false 1 v10 h4) fun v11 => obind (aFieldAddr 1 v3) fun v12 => obind (aLoad false 1 v12 h4) fun v13 => obind2 (aCall (env n_laws_eqBigramS) [v11, v13] h4) fun v14 h15 => obind (aUn .not v14) fun v16 => condB v16 (some ((bv false), h15)) (some ((bv true), h15))) := by kernel_rfl
theorem hb_spec_ReadModel : HasBody Tryd.prog n_spec_ReadModel := ⟨Tryd.f21, _, Tryd.func21, rfl, by decide⟩
theorem e_spec_ReadModel (env : Nat → Contract) (x0 : AV) (h : Heap) : denFn Tryd.prog env n_spec_ReadModel [x0] h = obind2 (aBox [(iv 0), nilS] h) fun v1 h2 => obind2 (aCall (env n_spec_l01Split) [x0, (.sc (.int .u8 10))] h2) fun v3 h4 => obind (aLenK .slice v3) fun v5 => obind (aBin .lss v5 (iv 2)) fun v6 => obind2 (guardB v6 false (obind (aLenK .slice v3) fun v7 => obind (aBin .sub v7 (iv 1)) fun v8 => obind (aIndexAddr 1 v3 v8 h4) fun v9 => obind (aLoad false 1 v9 h4) fun v10 => obind (aCmp .neq .plain v10 (sv ⟨#[]⟩)) fun v11 => some (v11, h4)) (some (und, h4))) fun v12 h13 => obind (aPick v6 (bv true) v12) fun v14 => condB v14 (obind (aBuild [(iv 0), nilS] []) fun v15 => obind (aStore 2 v1 v15 h13) fun h16 => retL [.c true 2 v1, .v (bv false)] h16) (obind (aLenK .slice v3) fun v17 => obind (aBin .sub v17 (iv 1)) fun v18 => obind (aSlice 1 v3 none (some v18) h13) fun v19 => obind2 (aCall (env n_spec_l18Read) [v19] h13) fun v20 h21 => obind (aExtract v20 0) fun v22 => obind (aExtract v20 1) fun v23 => obind2 (aBox [(iv 0), nilS] h21) fun v24 h25 => obind (aStore 2 v24 v22 h25) fun h26 => obind (aUn .not v23) fun v27 => condB v27 (obind (aBuild [(iv 0), nilS] []) fun v28 => obind (aStore 2 v1 v28 h26) fun h29 => retL [.c true 2 v1, .v (bv false)] h29) (obind (aLoad true 2 v24 h26) fun v30 => obind (aStore 2 v1 v30 h26) fun h31 => retL [.c true 2 v1, .v (bv true)] h31)) := by kernel_rfl
noncomputable abbrev c_impl_ReadModel : Code := (Tryd.f22.body).getD .skip
noncomputable abbrev nm_impl_ReadModel : List Bool := namedOf Tryd.f22
theorem hb_impl_ReadModel : HasBody Tryd.prog n_impl_ReadModel := ⟨Tryd.f22, _, Tryd.func22, rfl, by decide⟩
abbrev hm0_impl_ReadModel : List Bool := (true :: true :: true :: false :: true :: true :: true :: false :: false :: false :: false :: false :: true :: true :: true :: true :: true :: true :: true :: true :: true :: true :: true :: false :: false :: false :: false :: false :: false :: false :: false :: false :: false :: false :: false :: false :: false :: false :: false :: false :: false :: false :: false :: false :: false :: false :: false :: false :: false :: false :: false :: false :: false :: false :: false :: false :: false :: false :: false :: false :: false :: false :: false :: false :: false :: false :: false :: false :: false :: false :: false :: false :: false :: false :: false :: false :: true :: true :: true :: true :: true :: true :: true :: true :: true :: true :: true :: [])
abbrev xm0_impl_ReadModel : List Bool := (true :: true :: true :: true :: true :: true :: true :: true :: true :: true :: true :: true :: true :: true :: true :: true :: true :: true :: true :: true :: true :: true :: false :: false :: false :: false :: false :: false :: false :: false :: false :: false :: false :: false :: false :: false :: false :: false :: false :: false :: false :: false :: false :: false :: false :: false :: false :: false :: false :: false :: false :: false :: false :: false :: false :: false :: false :: false :: false :: false :: false :: false :: false :: false :: false :: false :: false :: false :: false :: false :: false :: false :: false :: false :: false :: false :: true :: true :: true :: true :: true :: true :: true :: true :: true :: true :: true :: [])
noncomputable def lb0_impl_ReadModel (env : Nat → Contract) : TM → Heap → Option Res := fun tm h => denC Tryd.prog env nm_impl_ReadModel (atrrrrlrll c_impl_ReadModel) Res tm h fun e tm h => some (e, tm, h)
noncomputable def lk0_impl_ReadModel (env : Nat → Contract) : AX → TM → Heap → Option (AV × Heap) := (kBlock 0 (kSeq Tryd.prog env nm_impl_ReadModel (atrrrrr c_impl_ReadModel) _ (kRet Tryd.prog Tryd.f22.results.toList)))
theorem e_impl_ReadModel (env : Nat → Contract) (x0 : AV) (h : Heap) : denFn Tryd.prog env n_impl_ReadModel [x0] h = obind2 (aBox [(iv 0), nilS] h) fun v1 h2 => obind2 (aCall (env n_impl_linesOf) [x0] h2) fun v3 h4 => obind (aExtract v3 0) fun v5 => obind (aExtract v3 1) fun v6 => obind (aUn .not v6) fun v7 => condB v7 (obind (aBuild [(iv 0), nilS] []) fun v8 => obind (aStore 2 v1 v8 h4) fun h9 => retL [.c true 2 v1, .v (bv false)] h9) (obind2 (aBox [(iv 0), nilS] h4) fun v10 h11 => obind (aLenK .slice v5) fun v12 => obind (loopP hm0_impl_ReadModel xm0_impl_ReadModel (lb0_impl_ReadModel env) (x0 :: und :: v1 :: .top :: v5 :: v6 :: v10 :: .top :: .top :: .top :: .top :: .top :: v3 :: x0 :: v3 :: v5 :: v6 :: v6 :: v7 :: und :: v5 :: v12 :: (iv 0) :: .top :: .top :: .top :: .top :: .top :: .top :: .top :: .top :: .top :: .top :: .top :: .top :: .top :: .top :: .top :: .top :: .top :: .top :: .top :: .top :: .top :: .top :: .top :: .top :: .top :: .top :: .top :: .top :: .top :: .top :: .top :: .top :: .top :: .top :: .top :: .top :: .top :: .top :: .top :: .top :: .top :: .top :: .top :: .top :: .top :: .top :: .top :: .top :: .top :: .top :: .top :: .top :: .top :: und :: und :: und :: und :: und :: und :: und :: und :: und :: und :: und :: []) h11) fun r => lk0_impl_ReadModel env r.1 r.2.1 r.2.2) := by kernel_rfl
theorem e_lb0_impl_ReadModel (env : Nat → Contract) (y0 y1 y2 y4 y5 y6 y12 y13 y14 y15 y16 y17 y18 y19 y20 y21 y22 y76 y77 y78 y79 y80 y81 y82 y83 y84 y85 y86 : AV) (h : Heap) : lb0_impl_ReadModel env (y0 :: y1 :: y2 :: .top :: y4 :: y5 :: y6 :: .top :: .top :: .top :: .top :: .top :: y12 :: y13 :: y14 :: y15 :: y16 :: y17 :: y18 :: y19 :: y20 :: y21 :: y22 :: .top :: .top :: .top :: .top :: .top :: .top :: .top :: .top :: .top :: .top :: .top :: .top :: .top :: .top :: .top :: .top :: .top :: .top :: .top :: .top :: .top :: .top :: .top :: .top :: .top :: .top :: .top :: .top :: .top :: .top :: .top :: .top :: .top :: .top :: .top :: .top :: .top :: .top :: .top :: .top :: .top :: .top :: .top :: .top :: .top :: .top :: .top :: .top :: .top :: .top :: .top :: .top :: .top :: y76 :: y77 :: y78 :: y79 :: y80 :: y81 :: y82 :: y83 :: y84 :: y85 :: y86 :: []) h = obind (aBin .lss y22 y21) fun v13 => condB v13 (obind (aIndexAddr 1 y20 y22 h) fun v14 => obind (aLoad false 1 v14 h) fun v15 => obind2 (aCall (env n_impl_wordsOf) [v15] h) fun v16 h17 => obind (aCmp .eql .plain y22 (iv 0)) fun v18 => obind2 (guardB v18 true (obind (aLenK .slice v16) fun v19 => obind (aCmp .eql .plain v19 (iv 2)) fun v20 => some (v20, h17)) (some (und, h17))) fun v21 h22 => obind (aPick v18 v21 (bv false)) fun v23 => condB v23 (obind (aIndexAddr 1 v16 (iv 1) h22) fun v24 => obind (aLoad false 1 v24 h22) fun v25 => obind2 (aCall (env n_impl_ReadDecimal) [v25] h22) fun v26 h27 => obind (aExtract v26 0) fun v28 => obind (aExtract v26 1) fun v29 => obind (aFieldAddr 0 y6) fun v30 => obind (aStore 1 v30 v28 h27) fun h31 => obind (aBin .add y22 (iv 1)) fun v32 => some (.normal, (y0 :: y1 :: y2 :: .top :: y4 :: y5 :: y6 :: y22 :: v15 :: v16 :: .top :: .top :: y12 :: y13 :: y14 :: y15 :: y16 :: y17 :: y18 :: y19 :: y20 :: y21 :: v32 :: v13 :: y22 :: v14 :: v15 :: v15 :: v16 :: .top :: v23 :: y22 :: v18 :: v18 :: .top :: .top :: v21 :: v23 :: v26 :: v16 :: v24 :: v25 :: v26 :: v28 :: v29 :: v30 :: .top :: .top :: .top :: .top :: .top :: .top :: .top :: .top :: .top :: .top :: .top :: .top :: .top :: .top :: .top :: .top :: .top :: .top :: .top :: .top :: .top :: .top :: .top :: .top :: .top :: .top :: .top :: .top :: .top :: v32 :: y76 :: y77 :: y78 :: y79 :: y80 :: y81 :: y82 :: y83 :: y84 :: y85 :: y86 :: []), h31)) (obind (aBin .gtr y22 (iv 0)) fun v33 => obind2 (guardB v33 true (obind (aLenK .slice v16) fun v34 => obind (aCmp .eql .plain v34 (iv 3)) fun v35 => some (v35, h22)) (some (und, h22))) fun v36 h37 => obind (aPick v33 v36 (bv false)) fun v38 => condB v38 (obind (aIndexAddr 1 v16 (iv 2) h37) fun v39 => obind (aLoad false 1 v39 h37) fun v40 => obind2 (aCall (env n_impl_ReadDecimal) [v40] h37) fun v41 h42 => obind (aExtract v41 0) fun v43 => obind (aExtract v41 1) fun v44 => obind (aFieldAddr 1 y6) fun v45 => obind (aLoad false 1 v45 h42) fun v46 => obind (aIndexAddr 1 v16 (iv 0) h42) fun v47 => obind (aLoad false 1 v47 h42) fun v48 => obind2 (aCallQ (env n_strings_TrimPrefix) [v48, (sv ⟨#[45]⟩)] h42) fun v49 h50 => obind (aIndexAddr 1 v16 (iv 1) h50) fun v51 => obind (aLoad false 1 v51 h50) fun v52 => obind (aBuild [(sv ⟨#[]⟩), (sv ⟨#[]⟩), (iv 0)] [(0, 1, v49), (1, 1, v52), (2, 1, v43)]) fun v53 => obind2 (aBuildSlice [(sv ⟨#[]⟩), (sv ⟨#[]⟩), (iv 0)] 1 [(0, v53)] h50) fun v54 h55 => obind2 (aAppend false 3 40 v46 v54 h55) fun v56 h57 => obind (aFieldAddr 1 y6) fun v58 => obind (aStore 1 v58 v56 h57) fun h59 => obind (aBin .add y22 (iv 1)) fun v60 => some (.normal, (y0 :: y1 :: y2 :: .top :: y4 :: y5 :: y6 :: y22 :: v15 :: v16 :: v43 :: v44 :: y12 :: y13 :: y14 :: y15 :: y16 :: y17 :: y18 :: y19 :: y20 :: y21 :: v60 :: v13 :: y22 :: v14 :: v15 :: v15 :: v16 :: .top :: v23 :: y22 :: v18 :: v18 :: .top :: .top :: v21 :: v23 :: .top :: .top :: .top :: .top :: .top :: .top :: .top :: .top :: v38 :: y22 :: v33 :: v33 :: .top :: .top :: v36 :: v38 :: v41 :: v16 :: v39 :: v40 :: v41 :: v43 :: v44 :: v45 :: v46 :: v16 :: v47 :: v48 :: v49 :: v16 :: v51 :: v52 :: v43 :: v53 :: v54 :: v56 :: v58 :: v60 :: y76 :: y77 :: y78 :: y79 :: y80 :: y81 :: y82 :: y83 :: y84 :: y85 :: y86 :: []), h59)) (obind (aBuild [(iv 0), nilS] []) fun v61 => obind (aStore 2 y2 v61 h37) fun h62 => some (.ret, (y0 :: y1 :: y2 :: (bv false) :: y4 :: y5 :: y6 :: y22 :: v15 :: v16 :: .top :: .top :: y12 :: y13 :: y14 :: y15 :: y16 :: y17 :: y18 :: y19 :: y20 :: y21 :: y22 :: v13 :: y22 :: v14 :: v15 :: v15 :: v16 :: v61 :: v23 :: y22 :: v18 :: v18 :: .top :: .top :: v21 :: v23 :: .top :: .top :: .top :: .top :: .top :: .top :: .top :: .top :: v38 :: y22 :: v33 :: v33 :: .top :: .top :: v36 :: v38 :: .top :: .top :: .top :: .top :: .top :: .top :: .top :: .top :: .top :: .top :: .top :: .top :: .top :: .top :: .top :: .top :: .top :: .top :: .top :: .top :: .top :: .top :: y76 :: y77 :: y78 :: y79 :: y80 :: y81 :: y82 :: y83 :: y84 :: y85 :: y86 :: []), h62)))) (some (.exit 0, (y0 :: y1 :: y2 :: .top :: y4 :: y5 :: y6 :: .top :: .top :: .top :: .top :: .top :: y12 :: y13 :: y14 :: y15 :: y16 :: y17 :: y18 :: y19 :: y20 :: y21 :: y22 :: v13 :: .top :: .top :: .top :: .top :: .top :: .top :: .top :: .top :: .top :: .top :: .top :: .top :: .top :: .top :: .top :: .top :: .top :: .top :: .top :: .top :: .top :: .top :: .top :: .top :: .top :: .top :: .top :: .top :: .top :: .top :: .top :: .top :: .top :: .top :: .top :: .top :: .top :: .top :: .top :: .top :: .top :: .top :: .top :: .top :: .top :: .top :: .top :: .top :: .top :: .top :: .top :: .top :: y76 :: y77 :: y78 :: y79 :: y80 :: y81 :: y82 :: y83 :: y84 :: y85 :: y86 :: []), h)) := by kernel_rfl
theorem e_lk0x0_impl_ReadModel (env : Nat → Contract) (z0 z1 z2 z3 z4 z5 z6 z7 z8 z9 z10 z11 z12 z13 z14 z15 z16 z17 z18 z19 z20 z21 z76 z77 z78 z79 z80 z81 z82 z83 z84 z85 z86 : AV) (h : Heap) : lk0_impl_ReadModel env (.exit 0) (z0 :: z1 :: z2 :: z3 :: z4 :: z5 :: z6 :: z7 :: z8 :: z9 :: z10 :: z11 :: z12 :: z13 :: z14 :: z15 :: z16 :: z17 :: z18 :: z19 :: z20 :: z21 :: .top :: .top :: .top :: .top :: .top :: .top :: .top :: .top :: .top :: .top :: .top :: .top :: .top :: .top :: .top :: .top :: .top :: .top :: .top :: .top :: .top :: .top :: .top :: .top :: .top :: .top :: .top :: .top :: .top :: .top :: .top :: .top :: .top :: .top :: .top :: .top :: .top :: .top :: .top :: .top :: .top :: .top :: .top :: .top :: .top :: .top :: .top :: .top :: .top :: .top :: .top :: .top :: .top :: .top :: z76 :: z77 :: z78 :: z79 :: z80 :: z81 :: z82 :: z83 :: z84 :: z85 :: z86 :: []) h = obind (aLoad true 2 z6 h) fun v63 => obind2 (aCall (env n_impl_ValidModel) [v63] h) fun v64 h65 => obind (aUn .not v64) fun v66 => obind2 (guardB v66 false (obind (aLoad true 2 z6 h65) fun v67 => obind2 (aCall (env n_impl_ModelText) [v67] h65) fun v68 h69 => obind (aCmp .neq .plain v68 z0) fun v70 => some (v70, h69)) (some (und, h65))) fun v71 h72 => obind (aPick v66 (bv true) v71) fun v73 => condB v73 (obind (aBuild [(iv 0), nilS] []) fun v74 => obind (aStore 2 z2 v74 h72) fun h75 => retL [.c true 2 z2, .v (bv false)] h75) (obind (aLoad true 2 z6 h72) fun v76 => obind (aStore 2 z2 v76 h72) fun h77 => retL [.c true 2 z2, .v (bv true)] h77) := by kernel_rfl
theorem e_lk0r_impl_ReadModel (env : Nat → Contract) (z0 z1 z2 z3 z4 z5 z6 z7 z8 z9 z10 z11 z12 z13 z14 z15 z16 z17 z18 z19 z20 z21 z76 z77 z78 z79 z80 z81 z82 z83 z84 z85 z86 : AV) (h : Heap) : lk0_impl_ReadModel env .ret (z0 :: z1 :: z2 :: z3 :: z4 :: z5 :: z6 :: z7 :: z8 :: z9 :: z10 :: z11 :: z12 :: z13 :: z14 :: z15 :: z16 :: z17 :: z18 :: z19 :: z20 :: z21 :: .top :: .top :: .top :: .top :: .top :: .top :: .top :: .top :: .top :: .top :: .top :: .top :: .top :: .top :: .top :: .top :: .top :: .top :: .top :: .top :: .top :: .top :: .top :: .top :: .top :: .top :: .top :: .top :: .top :: .top :: .top :: .top :: .top :: .top :: .top :: .top :: .top :: .top :: .top :: .top :: .top :: .top :: .top :: .top :: .top :: .top :: .top :: .top :: .top :: .top :: .top :: .top :: .top :: .top :: z76 :: z77 :: z78 :: z79 :: z80 :: z81 :: z82 :: z83 :: z84 :: z85 :: z86 :: []) h = retL [.c true 2 z2, .v z3] h := by kernel_rfl
theorem hb_laws_markModel : HasBody Tryd.prog n_laws_markModel := ⟨Tryd.f23, _, Tryd.func23, rfl, by decide⟩
theorem e_laws_markModel (env : Nat → Contract) (x0 x1 : AV) (h : Heap) : denFn Tryd.prog env n_laws_markModel [x0, x1] h = obind2 (aBox (AV.cells x0) h) fun v1 h2 => obind (aFieldAddr 1 v1) fun v3 => obind (aLoad false 1 v3 h2) fun v4 => obind2 (aCall (env n_laws_markBigramS) [v4, x1] h2) fun v5 h6 => some (v5, h6) := by kernel_rfl
theorem hb_laws_heldModel : HasBody Tryd.prog n_laws_heldModel := ⟨Tryd.f24, _, Tryd.func24, rfl, by decide⟩
theorem e_laws_heldModel (env : Nat → Contract) (x0 x1 : AV) (h : Heap) : denFn Tryd.prog env n_laws_heldModel [x0, x1] h = obind2 (aBox (AV.cells x0) h) fun v1 h2 => obind (aFieldAddr 1 v1) fun v3 => obind (aLoad false 1 v3 h2) fun v4 => obind2 (aCall (env n_laws_heldBigramS) [v4, x1] h2) fun v5 h6 => obind (aBin .lss v5 (iv 0)) fun v7 => condB v7 (some ((iv (-1)), h6)) (some (v5, h6)) := by kernel_rfl
noncomputable abbrev c_spec_l18Ok : Code := (Tryd.f26.body).getD .skip
noncomputable abbrev nm_spec_l18Ok : List Bool := namedOf Tryd.f26
theorem hb_spec_l18Ok : HasBody Tryd.prog n_spec_l18Ok := ⟨Tryd.f26, _, Tryd.func26, rfl, by decide⟩
abbrev hm0_spec_l18Ok : List Bool := [true, true, false, true, false, false, false, false, false, false, false, false, false, false, false, false, false, false, false, false, false, false, false, false, false, false, false, false, false, false, false, false, false, false, false, false, false, false, false, false, false, false, true, true, true, true, true, true, true, true, true, true, true, true, true]
abbrev xm0_spec_l18Ok : List Bool := [true, true, true, true, false, false, false, false, false, false, false, false, false, false, false, false, false, false, false, false, false, false, false, false, false, false, false, false, false, false, false, false, false, false, false, false, false, false, false, false, false, false, true, true, true, true, true, true, true, true, true, true, true, true, true]
noncomputable def lb0_spec_l18Ok (env : Nat → Contract) : TM → Heap → Option Res := fun tm h => denC Tryd.prog env nm_spec_l18Ok (atrlrll c_spec_l18Ok) Res tm h fun e tm h => some (e, tm, h)
noncomputable def lk0_spec_l18Ok (env : Nat → Contract) : AX → TM → Heap → Option (AV × Heap) := (kBlock 0 (kSeq Tryd.prog env nm_spec_l18Ok (atrr c_spec_l18Ok) _ (kRet Tryd.prog Tryd.f26.results.toList)))
theorem e_spec_l18Ok (env : Nat → Contract) (x0 : AV) (h : Heap) : denFn Tryd.prog env n_spec_l18Ok [x0] h = obind (loopP hm0_spec_l18Ok xm0_spec_l18Ok (lb0_spec_l18Ok env) [x0, und, .top, (iv 0), .top, .top, .top, .top, .top, .top, .top, .top, .top, .top, .top, .top, .top, .top, .top, .top, .top, .top, .top, .top, .top, .top, .top, .top, .top, .top, .top, .top, .top, .top, .top, .top, .top, .top, .top, .top, .top, .top, und, und, und, und, und, und, und, und, und, und, und, und, und] h) fun r => lk0_spec_l18Ok env r.1 r.2.1 r.2.2 := by kernel_rfl
theorem e_lb0_spec_l18Ok (env : Nat → Contract) (y0 y1 y3 y42 y43 y44 y45 y46 y47 y48 y49 y50 y51 y52 y53 y54 : AV) (h : Heap) : lb0_spec_l18Ok env [y0, y1, .top, y3, .top, .top, .top, .top, .top, .top, .top, .top, .top, .top, .top, .top, .top, .top, .top, .top, .top, .top, .top, .top, .top, .top, .top, .top, .top, .top, .top, .top, .top, .top, .top, .top, .top, .top, .top, .top, .top, .top, y42, y43, y44, y45, y46, y47, y48, y49, y50, y51, y52, y53, y54] h = obind (aNilCheck y0) fun v1 => obind (aFieldAddr 1 v1) fun v2 => obind (aLoad false 1 v2 h) fun v3 => obind (aLenK .slice v3) fun v4 => obind (aBin .lss y3 v4) fun v5 => condB v5 (obind (aNilCheck y0) fun v6 => obind (aFieldAddr 1 v6) fun v7 => obind (aLoad false 1 v7 h) fun v8 => obind (aIndexAddr 3 v8 y3 h) fun v9 => obind2 (aCallQ (env n_spec_l18Bigram) [v9] h) fun v10 h11 => obind (aUn .not v10) fun v12 => obind2 (guardB v12 false (some (y3, h11)) (some (und, h11))) fun v13 h14 => obind2 (guardB v12 false (obind (aBin .gtr v13 (iv 0)) fun v15 => some (v15, h14)) (some (und, h14))) fun v16 h17 => obind2 (guardB v12 false (some (v16, h17)) (some (und, h17))) fun v18 h19 => obind2 (guardB v18 true (some (y0, h19)) (some (und, h19))) fun v20 h21 => obind2 (guardB v18 true (obind (aNilCheck v20) fun v22 => some (v22, h21)) (some (und, h21))) fun v23 h24 => obind2 (guardB v18 true (obind (aFieldAddr 1 v23) fun v25 => some (v25, h24)) (some (und, h24))) fun v26 h27 => obind2 (guardB v18 true (obind (aLoad false 1 v26 h27) fun v28 => some (v28, h27)) (some (und, h27))) fun v29 h30 => obind2 (guardB v18 true (some (y3, h30)) (some (und, h30))) fun v31 h32 => obind2 (guardB v18 true (obind (aBin .sub v31 (iv 1)) fun v33 => some (v33, h32)) (some (und, h32))) fun v34 h35 => obind2 (guardB v18 true (obind (aIndexAddr 3 v29 v34 h35) fun v36 => some (v36, h35)) (some (und, h35))) fun v37 h38 => obind2 (guardB v18 true (some (y0, h38)) (some (und, h38))) fun v39 h40 => obind2 (guardB v18 true (obind (aNilCheck v39) fun v41 => some (v41, h40)) (some (und, h40))) fun v42 h43 => obind2 (guardB v18 true (obind (aFieldAddr 1 v42) fun v44 => some (v44, h43)) (some (und, h43))) fun v45 h46 => obind2 (guardB v18 true (obind (aLoad false 1 v45 h46) fun v47 => some (v47, h46)) (some (und, h46))) fun v48 h49 => obind2 (guardB v18 true (some (y3, h49)) (some (und, h49))) fun v50 h51 => obind2 (guardB v18 true (obind (aIndexAddr 3 v48 v50 h51) fun v52 => some (v52, h51)) (some (und, h51))) fun v53 h54 => obind2 (guardB v18 true (obind2 (aCallQ (env n_spec_l18Before) [v37, v53] h54) fun v55 h56 => some (v55, h56)) (some (und, h54))) fun v57 h58 => obind2 (guardB v18 true (obind (aUn .not v57) fun v59 => some (v59, h58)) (some (und, h58))) fun v60 h61 => obind2 (guardB v12 false (obind (aPick v18 v60 (bv false)) fun v62 => some (v62, h61)) (some (und, h61))) fun v63 h64 => obind (aPick v12 (bv true) v63) fun v65 => condB v65 (some (.ret, [y0, y1, (bv false), y3, y3, y0, v1, v2, v3, v4, v5, .top, .top, y0, v6, v7, v8, y3, v9, v10, v12, v12, v13, v16, v18, v20, v23, v26, v29, v31, v34, v37, v39, v42, v45, v48, v50, v53, v57, v60, v63, v65, y42, y43, y44, y45, y46, y47, y48, y49, y50, y51, y52, y53, y54], h64)) (obind (aBin .add y3 (iv 1)) fun v66 => some (.normal, [y0, y1, .top, v66, y3, y0, v1, v2, v3, v4, v5, y3, v66, y0, v6, v7, v8, y3, v9, v10, v12, v12, v13, v16, v18, v20, v23, v26, v29, v31, v34, v37, v39, v42, v45, v48, v50, v53, v57, v60, v63, v65, y42, y43, y44, y45, y46, y47, y48, y49, y50, y51, y52, y53, y54], h64))) (some (.exit 0, [y0, y1, .top, y3, y3, y0, v1, v2, v3, v4, v5, .top, .top, .top, .top, .top, .top, .top, .top, .top, .top, .top, .top, .top, .top, .top, .top, .top, .top, .top, .top, .top, .top, .top, .top, .top, .top, .top, .top, .top, .top, .top, y42, y43, y44, y45, y46, y47, y48, y49, y50, y51, y52, y53, y54], h)) := by kernel_rfl
theorem e_lk0x0_spec_l18Ok (env : Nat → Contract) (z0 z1 z2 z3 z42 z43 z44 z45 z46 z47 z48 z49 z50 z51 z52 z53 z54 : AV) (h : Heap) : lk0_spec_l18Ok env (.exit 0) [z0, z1, z2, z3, .top, .top, .top, .top, .top, .top, .top, .top, .top, .top, .top, .top, .top, .top, .top, .top, .top, .top, .top, .top, .top, .top, .top, .top, .top, .top, .top, .top, .top, .top, .top, .top, .top, .top, .top, .top, .top, .top, z42, z43, z44, z45, z46, z47, z48, z49, z50, z51, z52, z53, z54] h = obind (aNilCheck z0) fun v67 => obind (aFieldAddr 0 v67) fun v68 => obind (aLoad false 1 v68 h) fun v69 => obind2 (aCall (env n_spec_l00In) [v69, (iv 0), (iv 1000000)] h) fun v70 h71 => obind2 (guardB v70 true (obind (aNilCheck z0) fun v72 => obind (aFieldAddr 1 v72) fun v73 => obind (aLoad false 1 v73 h71) fun v74 => obind (aLenK .slice v74) fun v75 => obind (aBin .leq v75 (iv 60)) fun v76 => some (v76, h71)) (some (und, h71))) fun v77 h78 => obind (aPick v70 v77 (bv false)) fun v79 => some (v79, h78) := by kernel_rfl
theorem e_lk0r_spec_l18Ok (env : Nat → Contract) (z0 z1 z2 z3 z42 z43 z44 z45 z46 z47 z48 z49 z50 z51 z52 z53 z54 : AV) (h : Heap) : lk0_spec_l18Ok env .ret [z0, z1, z2, z3, .top, .top, .top, .top, .top, .top, .top, .top, .top, .top, .top, .top, .top, .top, .top, .top, .top, .top, .top, .top, .top, .top, .top, .top, .top, .top, .top, .top, .top, .top, .top, .top, .top, .top, .top, .top, .top, .top, z42, z43, z44, z45, z46, z47, z48, z49, z50, z51, z52, z53, z54] h = some (z2, h) := by kernel_rfl
noncomputable abbrev c_impl_ValidModel : Code := (Tryd.f29.body).getD .skip
noncomputable abbrev nm_impl_ValidModel : List Bool := namedOf Tryd.f29
theorem hb_impl_ValidModel : HasBody Tryd.prog n_impl_ValidModel := ⟨Tryd.f29, _, Tryd.func29, rfl, by decide⟩
abbrev hm0_impl_ValidModel : List Bool := [true, true, false, false, false, true, true, true, true, false, false, false, false, false, false, false, false, false, false, false, false, false, false, false, false, false, false, false, false, false, false, false, true, true, true, true, true, true, true, true, true]
abbrev xm0_impl_ValidModel : List Bool := [true, true, true, true, true, true, true, true, false, false, false, false, false, false, false, false, false, false, false, false, false, false, false, false, false, false, false, false, false, false, false, false, true, true, true, true, true, true, true, true, true]
noncomputable def lb0_impl_ValidModel (env : Nat → Contract) : TM → Heap → Option Res := fun tm h => denC Tryd.prog env nm_impl_ValidModel (atrlrll c_impl_ValidModel) Res tm h fun e tm h => some (e, tm, h)
noncomputable def lk0_impl_ValidModel (env : Nat → Contract) : AX → TM → Heap → Option (AV × Heap) := (kBlock 0 (kSeq Tryd.prog env nm_impl_ValidModel (atrr c_impl_ValidModel) _ (kRet Tryd.prog Tryd.f29.results.toList)))
theorem e_impl_ValidModel (env : Nat → Contract) (x0 : AV) (h : Heap) : denFn Tryd.prog env n_impl_ValidModel [x0] h = obind2 (aBox (AV.cells x0) h) fun v1 h2 => obind (aFieldAddr 1 v1) fun v3 => obind (aLoad false 1 v3 h2) fun v4 => obind (aLenK .slice v4) fun v5 => obind (loopP hm0_impl_ValidModel xm0_impl_ValidModel (lb0_impl_ValidModel env) [x0, v1, .top, .top, .top, v3, v4, v5, (iv 0), .top, .top, .top, .top, .top, .top, .top, .top, .top, .top, .top, .top, .top, .top, .top, .top, .top, .top, .top, .top, .top, .top, .top, und, und, und, und, und, und, und, und, und] h2) fun r => lk0_impl_ValidModel env r.1 r.2.1 r.2.2 := by kernel_rfl
theorem e_lb0_impl_ValidModel (env : Nat → Contract) (y0 y1 y5 y6 y7 y8 y32 y33 y34 y35 y36 y37 y38 y39 y40 : AV) (h : Heap) : lb0_impl_ValidModel env [y0, y1, .top, .top, .top, y5, y6, y7, y8, .top, .top, .top, .top, .top, .top, .top, .top, .top, .top, .top, .top, .top, .top, .top, .top, .top, .top, .top, .top, .top, .top, .top, y32, y33, y34, y35, y36, y37, y38, y39, y40] h = obind (aBin .lss y8 y7) fun v6 => condB v6 (obind (aIndexAddr 3 y6 y8 h) fun v7 => obind (aLoad true 3 v7 h) fun v8 => obind2 (aBox [(sv ⟨#[]⟩), (sv ⟨#[]⟩), (iv 0)] h) fun v9 h10 => obind (aStore 3 v9 v8 h10) fun h11 => obind (aLoad true 3 v9 h11) fun v12 => obind2 (aCallQ (env n_impl_validBigram) [v12] h11) fun v13 h14 => obind (aUn .not v13) fun v15 => obind2 (guardB v15 false (some (y8, h14)) (some (und, h14))) fun v16 h17 => obind2 (guardB v15 false (obind (aBin .gtr v16 (iv 0)) fun v18 => some (v18, h17)) (some (und, h17))) fun v19 h20 => obind2 (guardB v15 false (some (v19, h20)) (some (und, h20))) fun v21 h22 => obind2 (guardB v21 true (obind (aFieldAddr 1 y1) fun v23 => some (v23, h22)) (some (und, h22))) fun v24 h25 => obind2 (guardB v21 true (obind (aLoad false 1 v24 h25) fun v26 => some (v26, h25)) (some (und, h25))) fun v27 h28 => obind2 (guardB v21 true (some (y8, h28)) (some (und, h28))) fun v29 h30 => obind2 (guardB v21 true (obind (aBin .sub v29 (iv 1)) fun v31 => some (v31, h30)) (some (und, h30))) fun v32 h33 => obind2 (guardB v21 true (obind (aIndexAddr 3 v27 v32 h33) fun v34 => some (v34, h33)) (some (und, h33))) fun v35 h36 => obind2 (guardB v21 true (obind (aLoad true 3 v35 h36) fun v37 => some (v37, h36)) (some (und, h36))) fun v38 h39 => obind2 (guardB v21 true (obind (aLoad true 3 v9 h39) fun v40 => some (v40, h39)) (some (und, h39))) fun v41 h42 => obind2 (guardB v21 true (obind2 (aCallQ (env n_impl_compareBigrams) [v38, v41] h42) fun v43 h44 => some (v43, h44)) (some (und, h42))) fun v45 h46 => obind2 (guardB v21 true (obind (aBin .geq v45 (iv 0)) fun v47 => some (v47, h46)) (some (und, h46))) fun v48 h49 => obind2 (guardB v15 false (obind (aPick v21 v48 (bv false)) fun v50 => some (v50, h49)) (some (und, h49))) fun v51 h52 => obind (aPick v15 (bv true) v51) fun v53 => condB v53 (some (.ret, [y0, y1, (bv false), y8, v9, y5, y6, y7, y8, v6, y8, v7, v8, v12, v13, v15, v15, v16, v19, v21, v24, v27, v29, v32, v35, v38, v41, v45, v48, v51, v53, .top, y32, y33, y34, y35, y36, y37, y38, y39, y40], h52)) (obind (aBin .add y8 (iv 1)) fun v54 => some (.normal, [y0, y1, .top, y8, v9, y5, y6, y7, v54, v6, y8, v7, v8, v12, v13, v15, v15, v16, v19, v21, v24, v27, v29, v32, v35, v38, v41, v45, v48, v51, v53, v54, y32, y33, y34, y35, y36, y37, y38, y39, y40], h52))) (some (.exit 0, [y0, y1, .top, .top, .top, y5, y6, y7, y8, v6, .top, .top, .top, .top, .top, .top, .top, .top, .top, .top, .top, .top, .top, .top, .top, .top, .top, .top, .top, .top, .top, .top, y32, y33, y34, y35, y36, y37, y38, y39, y40], h)) := by kernel_rfl
theorem e_lk0x0_impl_ValidModel (env : Nat → Contract) (z0 z1 z2 z3 z4 z5 z6 z7 z32 z33 z34 z35 z36 z37 z38 z39 z40 : AV) (h : Heap) : lk0_impl_ValidModel env (.exit 0) [z0, z1, z2, z3, z4, z5, z6, z7, .top, .top, .top, .top, .top, .top, .top, .top, .top, .top, .top, .top, .top, .top, .top, .top, .top, .top, .top, .top, .top, .top, .top, .top, z32, z33, z34, z35, z36, z37, z38, z39, z40] h = obind (aFieldAddr 0 z1) fun v55 => obind (aLoad false 1 v55 h) fun v56 => obind2 (aCall (env n_impl_isCost) [v56] h) fun v57 h58 => obind2 (guardB v57 true (obind (aFieldAddr 1 z1) fun v59 => obind (aLoad false 1 v59 h58) fun v60 => obind (aLenK .slice v60) fun v61 => obind (aBin .leq v61 (iv 60)) fun v62 => some (v62, h58)) (some (und, h58))) fun v63 h64 => obind (aPick v57 v63 (bv false)) fun v65 => some (v65, h64) := by kernel_rfl
theorem e_lk0r_impl_ValidModel (env : Nat → Contract) (z0 z1 z2 z3 z4 z5 z6 z7 z32 z33 z34 z35 z36 z37 z38 z39 z40 : AV) (h : Heap) : lk0_impl_ValidModel env .ret [z0, z1, z2, z3, z4, z5, z6, z7, .top, .top, .top, .top, .top, .top, .top, .top, .top, .top, .top, .top, .top, .top, .top, .top, .top, .top, .top, .top, .top, .top, .top, .top, z32, z33, z34, z35, z36, z37, z38, z39, z40] h = some (z2, h) := by kernel_rfl
theorem hb_impl_Decimal : HasBody Tryd.prog n_impl_Decimal := ⟨Tryd.f31, _, Tryd.func31, rfl, by decide⟩
theorem e_impl_Decimal (env : Nat → Contract) (x0 : AV) (h : Heap) : denFn Tryd.prog env n_impl_Decimal [x0] h = obind2 (aCall (env n_strconv_FormatInt) [x0, (iv 10)] h) fun v1 h2 => some (v1, h2) := by kernel_rfl
noncomputable abbrev c_laws_eqBigramS : Code := (Tryd.f33.body).getD .skip
noncomputable abbrev nm_laws_eqBigramS : List Bool := namedOf Tryd.f33
theorem hb_laws_eqBigramS : HasBody Tryd.prog n_laws_eqBigramS := ⟨Tryd.f33, _, Tryd.func33, rfl, by decide⟩
abbrev hm0_laws_eqBigramS : List Bool := [true, true, true, true, false, true, true, true, true, true, true, false, false, false, false, false, false, false, false, false, false, false, false, false, false, false, false]
abbrev xm0_laws_eqBigramS : List Bool := [true, true, true, true, true, true, true, true, true, true, true, false, false, false, false, false, false, false, false, false, false, false, false, false, false, false, false]
noncomputable def lb0_laws_eqBigramS (env : Nat → Contract) : TM → Heap → Option Res := fun tm h => denC Tryd.prog env nm_laws_eqBigramS (atrrlrll c_laws_eqBigramS) Res tm h fun e tm h => some (e, tm, h)
noncomputable def lk0_laws_eqBigramS (env : Nat → Contract) : AX → TM → Heap → Option (AV × Heap) := (kBlock 0 (kSeq Tryd.prog env nm_laws_eqBigramS (atrrr c_laws_eqBigramS) _ (kRet Tryd.prog Tryd.f33.results.toList)))
theorem e_laws_eqBigramS (env : Nat → Contract) (x0 x1 : AV) (h : Heap) : denFn Tryd.prog env n_laws_eqBigramS [x0, x1] h = obind (aLenK .slice x0) fun v1 => obind (aLenK .slice x1) fun v2 => obind (aCmp .neq .plain v1 v2) fun v3 => condB v3 (some ((bv false), h)) (obind (loopP hm0_laws_eqBigramS xm0_laws_eqBigramS (lb0_laws_eqBigramS env) [x0, x1, und, und, .top, (iv 0), x0, v1, x1, v2, v3, .top, .top, .top, .top, .top, .top, .top, .top, .top, .top, .top, .top, .top, .top, .top, .top] h) fun r => lk0_laws_eqBigramS env r.1 r.2.1 r.2.2) := by kernel_rfl
theorem e_lb0_laws_eqBigramS (env : Nat → Contract) (y0 y1 y2 y3 y5 y6 y7 y8 y9 y10 : AV) (h : Heap) : lb0_laws_eqBigramS env [y0, y1, y2, y3, .top, y5, y6, y7, y8, y9, y10, .top, .top, .top, .top, .top, .top, .top, .top, .top, .top, .top, .top, .top, .top, .top, .top] h = obind (aLenK .slice y0) fun v4 => obind (aBin .lss y5 v4) fun v5 => condB v5 (obind (aIndexAddr 3 y0 y5 h) fun v6 => obind (aLoad true 3 v6 h) fun v7 => obind (aIndexAddr 3 y1 y5 h) fun v8 => obind (aLoad true 3 v8 h) fun v9 => obind2 (aCallQ (env n_laws_eqBigram) [v7, v9] h) fun v10 h11 => obind (aUn .not v10) fun v12 => condB v12 (some (.ret, [y0, y1, y2, y3, (bv false), y5, y6, y7, y8, y9, y10, y5, y0, v4, v5, .top, .top, y0, y5, v6, v7, y1, y5, v8, v9, v10, v12], h11)) (obind (aBin .add y5 (iv 1)) fun v13 => some (.normal, [y0, y1, y2, y3, .top, v13, y6, y7, y8, y9, y10, y5, y0, v4, v5, y5, v13, y0, y5, v6, v7, y1, y5, v8, v9, v10, v12], h11))) (some (.exit 0, [y0, y1, y2, y3, .top, y5, y6, y7, y8, y9, y10, y5, y0, v4, v5, .top, .top, .top, .top, .top, .top, .top, .top, .top, .top, .top, .top], h)) := by kernel_rfl
theorem e_lk0x0_laws_eqBigramS (env : Nat → Contract) (z0 z1 z2 z3 z4 z5 z6 z7 z8 z9 z10 : AV) (h : Heap) : lk0_laws_eqBigramS env (.exit 0) [z0, z1, z2, z3, z4, z5, z6, z7, z8, z9, z10, .top, .top, .top, .top, .top, .top, .top, .top, .top, .top, .top, .top, .top, .top, .top, .top] h = some ((bv true), h) := by kernel_rfl
theorem e_lk0r_laws_eqBigramS (env : Nat → Contract) (z0 z1 z2 z3 z4 z5 z6 z7 z8 z9 z10 : AV) (h : Heap) : lk0_laws_eqBigramS env .ret [z0, z1, z2, z3, z4, z5, z6, z7, z8, z9, z10, .top, .top, .top, .top, .top, .top, .top, .top, .top, .top, .top, .top, .top, .top, .top, .top] h = some (z4, h) := by kernel_rfl
theorem hb_impl_ValidSymbols : HasBody Tryd.prog n_impl_ValidSymbols := ⟨Tryd.f38, _, Tryd.func38, rfl, by decide⟩
theorem e_impl_ValidSymbols (env : Nat → Contract) (x0 : AV) (h : Heap) : denFn Tryd.prog env n_impl_ValidSymbols [x0] h = obind (aLenK .slice x0) fun v1 => obind (aBin .leq v1 (iv 8)) fun v2 => obind2 (guardB v2 true (obind2 (aCall (env n_slices_ContainsFunc_impl_Symbol_impl_Symbol) [x0, (.fn n_impl_ValidSymbols_1 [])] h) fun v3 h4 => obind (aUn .not v3) fun v5 => some (v5, h4)) (some (und, h))) fun v6 h7 => obind (aPick v2 v6 (bv false)) fun v8 => some (v8, h7) := by kernel_rfl
noncomputable abbrev c_spec_l01Split : Code := (Tryd.f40.body).getD .skip
noncomputable abbrev nm_spec_l01Split : List Bool := namedOf Tryd.f40
theorem hb_spec_l01Split : HasBody Tryd.prog n_spec_l01Split := ⟨Tryd.f40, _, Tryd.func40, rfl, by decide⟩
abbrev hm0_spec_l01Split : List Bool := [true, true, true, true, true, true, true, true, true, false, false, false, false, false, false, false, false, false, false, false, false, false, false, false, false, false, false, false, false, true, true, true, true, true, true]
abbrev xm0_spec_l01Split : List Bool := [true, true, true, true, true, true, true, true, true, false, false, false, false, false, false, false, false, false, false, false, false, false, false, false, false, false, false, false, false, true, true, true, true, true, true]
noncomputable def lb0_spec_l01Split (env : Nat → Contract) : TM → Heap → Option Res := fun tm h => denC Tryd.prog env nm_spec_l01Split (atrrrlrll c_spec_l01Split) Res tm h fun e tm h => some (e, tm, h)
noncomputable def lk0_spec_l01Split (env : Nat → Contract) : AX → TM → Heap → Option (AV × Heap) := (kBlock 0 (kSeq Tryd.prog env nm_spec_l01Split (atrrrr c_spec_l01Split) _ (kRet Tryd.prog Tryd.f40.results.toList)))
theorem e_spec_l01Split (env : Nat → Contract) (x0 x1 : AV) (h : Heap) : denFn Tryd.prog env n_spec_l01Split [x0, x1] h = obind2 (aBuildSlice [(sv ⟨#[]⟩)] 0 [] h) fun v1 h2 => obind (loopP hm0_spec_l01Split xm0_spec_l01Split (lb0_spec_l01Split env) [x0, x1, und, und, nilS, v1, (iv 0), (iv 0), v1, .top, .top, .top, .top, .top, .top, .top, .top, .top, .top, .top, .top, .top, .top, .top, .top, .top, .top, .top, .top, und, und, und, und, und, und] h2) fun r => lk0_spec_l01Split env r.1 r.2.1 r.2.2 := by kernel_rfl
theorem e_lb0_spec_l01Split (env : Nat → Contract) (y0 y1 y2 y3 y4 y5 y6 y7 y8 y29 y30 y31 y32 y33 y34 : AV) (h : Heap) : lb0_spec_l01Split env [y0, y1, y2, y3, y4, y5, y6, y7, y8, .top, .top, .top, .top, .top, .top, .top, .top, .top, .top, .top, .top, .top, .top, .top, .top, .top, .top, .top, .top, y29, y30, y31, y32, y33, y34] h = obind (aLenK .str y0) fun v3 => obind (aBin .lss y7 v3) fun v4 => condB v4 (obind (aIndexStr y0 y7) fun v5 => obind (aCmp .eql .plain v5 y1) fun v6 => condB v6 (obind (aSliceStr y0 (some y6) (some y7)) fun v7 => obind2 (aBuildSlice [(sv ⟨#[]⟩)] 1 [(0, v7)] h) fun v8 h9 => obind2 (aAppend false 1 16 y5 v8 h9) fun v10 h11 => obind (aBin .add y7 (iv 1)) fun v12 => obind (aBin .add y7 (iv 1)) fun v13 => some (.normal, [y0, y1, y2, y3, y4, v10, v12, v13, y8, y7, y0, v3, v4, y7, v13, y0, y7, v5, y1, v6, y5, y0, y6, y7, v7, v8, v10, y7, v12, y29, y30, y31, y32, y33, y34], h11)) (obind (aBin .add y7 (iv 1)) fun v14 => some (.normal, [y0, y1, y2, y3, y4, y5, y6, v14, y8, y7, y0, v3, v4, y7, v14, y0, y7, v5, y1, v6, .top, .top, .top, .top, .top, .top, .top, .top, .top, y29, y30, y31, y32, y33, y34], h))) (some (.exit 0, [y0, y1, y2, y3, y4, y5, y6, y7, y8, y7, y0, v3, v4, .top, .top, .top, .top, .top, .top, .top, .top, .top, .top, .top, .top, .top, .top, .top, .top, y29, y30, y31, y32, y33, y34], h)) := by kernel_rfl
theorem e_lk0x0_spec_l01Split (env : Nat → Contract) (z0 z1 z2 z3 z4 z5 z6 z7 z8 z29 z30 z31 z32 z33 z34 : AV) (h : Heap) : lk0_spec_l01Split env (.exit 0) [z0, z1, z2, z3, z4, z5, z6, z7, z8, .top, .top, .top, .top, .top, .top, .top, .top, .top, .top, .top, .top, .top, .top, .top, .top, .top, .top, .top, .top, z29, z30, z31, z32, z33, z34] h = obind (aSliceStr z0 (some z6) none) fun v15 => obind2 (aBuildSlice [(sv ⟨#[]⟩)] 1 [(0, v15)] h) fun v16 h17 => obind2 (aAppend false 1 16 z5 v16 h17) fun v18 h19 => some (v18, h19) := by kernel_rfl
theorem hb_impl_linesOf : HasBody Tryd.prog n_impl_linesOf := ⟨Tryd.f42, _, Tryd.func42, rfl, by decide⟩
theorem e_impl_linesOf (env : Nat → Contract) (x0 : AV) (h : Heap) : denFn Tryd.prog env n_impl_linesOf [x0] h = obind (aCmp .eql .plain x0 (sv ⟨#[]⟩)) fun v1 => condB v1 (some ((.tup [nilS, (bv true)]), h)) (obind2 (aCall (env n_strings_HasSuffix) [x0, (sv ⟨#[10]⟩)] h) fun v2 h3 => obind (aUn .not v2) fun v4 => condB v4 (some ((.tup [nilS, (bv false)]), h3)) (obind2 (aCall (env n_strings_TrimSuffix) [x0, (sv ⟨#[10]⟩)] h3) fun v5 h6 => obind2 (aCall (env n_strings_Split) [v5, (sv ⟨#[10]⟩)] h6) fun v7 h8 => some ((.tup [v7, (bv true)]), h8))) := by kernel_rfl
theorem hb_impl_wordsOf : HasBody Tryd.prog n_impl_wordsOf := ⟨Tryd.f43, _, Tryd.func43, rfl, by decide⟩
theorem e_impl_wordsOf (env : Nat → Contract) (x0 : AV) (h : Heap) : denFn Tryd.prog env n_impl_wordsOf [x0] h = obind2 (aCall (env n_strings_Split) [x0, (sv ⟨#[32]⟩)] h) fun v1 h2 => some (v1, h2) := by kernel_rfl
noncomputable abbrev c_laws_markText : Code := (Tryd.f45.body).getD .skip
noncomputable abbrev nm_laws_markText : List Bool := namedOf Tryd.f45
theorem hb_laws_markText : HasBody Tryd.prog n_laws_markText := ⟨Tryd.f45, _, Tryd.func45, rfl, by decide⟩
abbrev hm0_laws_markText : List Bool := [true, true, true, true, true, true, false, false, false, false, false, false, false, false, false, false, false, false, true, true]
abbrev xm0_laws_markText : List Bool := [true, true, true, true, true, true, false, false, false, false, false, false, false, false, false, false, false, false, true, true]
noncomputable def lb0_laws_markText (env : Nat → Contract) : TM → Heap → Option Res := fun tm h => denC Tryd.prog env nm_laws_markText (atrrrlll c_laws_markText) Res tm h fun e tm h => some (e, tm, h)
noncomputable def lk0_laws_markText (env : Nat → Contract) : AX → TM → Heap → Option (AV × Heap) := (kBlock 0 (kSeq Tryd.prog env nm_laws_markText (atrrrr c_laws_markText) _ (kRet Tryd.prog Tryd.f45.results.toList)))
theorem e_laws_markText (env : Nat → Contract) (x0 : AV) (h : Heap) : denFn Tryd.prog env n_laws_markText [x0] h = obind (aBin .leq x0 (iv 0)) fun v1 => condB v1 (some ((sv ⟨#[109, 48]⟩), h)) (obind (loopP hm0_laws_markText xm0_laws_markText (lb0_laws_markText env) [x0, und, (sv ⟨#[]⟩), (sv ⟨#[]⟩), x0, v1, .top, .top, .top, .top, .top, .top, .top, .top, .top, .top, .top, .top, und, und] h) fun r => lk0_laws_markText env r.1 r.2.1 r.2.2) := by kernel_rfl
theorem e_lb0_laws_markText (env : Nat → Contract) (y0 y1 y2 y3 y4 y5 y18 y19 : AV) (h : Heap) : lb0_laws_markText env [y0, y1, y2, y3, y4, y5, .top, .top, .top, .top, .top, .top, .top, .top, .top, .top, .top, .top, y18, y19] h = obind (aBin .gtr y0 (iv 0)) fun v2 => condB v2 (obind (aBin .rem y0 (iv 10)) fun v3 => obind (aBin .add (iv 48) v3) fun v4 => obind (aConvInt .u8 v4) fun v5 => obind2 (aBuildSlice [(.sc (.int .u8 0))] 1 [(0, v5)] h) fun v6 h7 => obind (aConvStr v6 h7) fun v8 => obind (aBin .add v8 y3) fun v9 => obind (aBin .quo y0 (iv 10)) fun v10 => some (.normal, [v10, y1, y2, v9, y4, y5, y0, v2, y0, v3, v4, v5, v6, v8, y3, v9, y0, v10, y18, y19], h7)) (some (.exit 0, [y0, y1, y2, y3, y4, y5, y0, v2, .top, .top, .top, .top, .top, .top, .top, .top, .top, .top, y18, y19], h)) := by kernel_rfl
theorem e_lk0x0_laws_markText (env : Nat → Contract) (z0 z1 z2 z3 z4 z5 z18 z19 : AV) (h : Heap) : lk0_laws_markText env (.exit 0) [z0, z1, z2, z3, z4, z5, .top, .top, .top, .top, .top, .top, .top, .top, .top, .top, .top, .top, z18, z19] h = obind (aBin .add (sv ⟨#[109]⟩) z3) fun v11 => some (v11, h) := by kernel_rfl
noncomputable abbrev c_spec_l18Read : Code := (Tryd.f46.body).getD .skip
noncomputable abbrev nm_spec_l18Read : List Bool := namedOf Tryd.f46
theorem hb_spec_l18Read : HasBody Tryd.prog n_spec_l18Read := ⟨Tryd.f46, _, Tryd.func46, rfl, by decide⟩
abbrev hm0_spec_l18Read : List Bool := (true :: true :: true :: false :: false :: true :: true :: true :: true :: false :: false :: false :: true :: true :: true :: true :: true :: true :: true :: true :: true :: true :: true :: true :: true :: true :: true :: true :: true :: true :: true :: true :: true :: true :: true :: false :: false :: false :: false :: false :: false :: false :: false :: false :: false :: false :: false :: false :: false :: false :: false :: false :: false :: false :: false :: false :: false :: false :: false :: false :: false :: false :: false :: false :: false :: false :: false :: false :: false :: false :: false :: false :: false :: false :: false :: false :: false :: false :: false :: false :: false :: false :: false :: true :: true :: true :: true :: true :: [])
abbrev xm0_spec_l18Read : List Bool := (true :: true :: true :: true :: true :: true :: true :: true :: true :: true :: true :: true :: true :: true :: true :: true :: true :: true :: true :: true :: true :: true :: true :: true :: true :: true :: true :: true :: true :: true :: true :: true :: true :: true :: true :: false :: false :: false :: false :: false :: false :: false :: false :: false :: false :: false :: false :: false :: false :: false :: false :: false :: false :: false :: false :: false :: false :: false :: false :: false :: false :: false :: false :: false :: false :: false :: false :: false :: false :: false :: false :: false :: false :: false :: false :: false :: false :: false :: false :: false :: false :: false :: false :: true :: true :: true :: true :: true :: [])
noncomputable def lb0_spec_l18Read (env : Nat → Contract) : TM → Heap → Option Res := fun tm h => denC Tryd.prog env nm_spec_l18Read (atrrrrrlrll c_spec_l18Read) Res tm h fun e tm h => some (e, tm, h)
noncomputable def lk0_spec_l18Read (env : Nat → Contract) : AX → TM → Heap → Option (AV × Heap) := (kBlock 0 (kSeq Tryd.prog env nm_spec_l18Read (atrrrrrr c_spec_l18Read) _ (kRet Tryd.prog Tryd.f46.results.toList)))
theorem e_spec_l18Read (env : Nat → Contract) (x0 : AV) (h : Heap) : denFn Tryd.prog env n_spec_l18Read [x0] h = obind2 (aBox [(iv 0), nilS] h) fun v1 h2 => obind (aIndexAddr 1 x0 (iv 0) h2) fun v3 => obind (aLoad false 1 v3 h2) fun v4 => obind2 (aCall (env n_spec_l01Split) [v4, (.sc (.int .u8 32))] h2) fun v5 h6 => obind (aLenK .slice v5) fun v7 => obind (aCmp .neq .plain v7 (iv 2)) fun v8 => obind2 (guardB v8 false (obind (aIndexAddr 1 v5 (iv 0) h6) fun v9 => obind (aLoad false 1 v9 h6) fun v10 => obind (aCmp .neq .plain v10 (sv ⟨#[100, 101, 102, 97, 117, 108, 116]⟩)) fun v11 => some (v11, h6)) (some (und, h6))) fun v12 h13 => obind (aPick v8 (bv true) v12) fun v14 => condB v14 (obind (aBuild [(iv 0), nilS] []) fun v15 => obind (aStore 2 v1 v15 h13) fun h16 => retL [.c true 2 v1, .v (bv false)] h16) (obind (aIndexAddr 1 v5 (iv 1) h13) fun v17 => obind (aLoad false 1 v17 h13) fun v18 => obind2 (aCall (env n_spec_l01Number) [v18] h13) fun v19 h20 => obind (aExtract v19 0) fun v21 => obind (aExtract v19 1) fun v22 => obind (aBuild [(iv 0), nilS] [(0, 1, v21)]) fun v23 => obind2 (aBox [(iv 0), nilS] h20) fun v24 h25 => obind (aStore 2 v24 v23 h25) fun h26 => obind (loopP hm0_spec_l18Read xm0_spec_l18Read (lb0_spec_l18Read env) (x0 :: und :: v1 :: .top :: .top :: v21 :: v22 :: v24 :: (iv 1) :: .top :: .top :: .top :: x0 :: v3 :: v4 :: v5 :: v5 :: v7 :: v8 :: v8 :: .top :: .top :: .top :: v12 :: v14 :: und :: v19 :: v5 :: v17 :: v18 :: v19 :: v21 :: v22 :: v21 :: v23 :: .top :: .top :: .top :: .top :: .top :: .top :: .top :: .top :: .top :: .top :: .top :: .top :: .top :: .top :: .top :: .top :: .top :: .top :: .top :: .top :: .top :: .top :: .top :: .top :: .top :: .top :: .top :: .top :: .top :: .top :: .top :: .top :: .top :: .top :: .top :: .top :: .top :: .top :: .top :: .top :: .top :: .top :: .top :: .top :: .top :: .top :: .top :: .top :: und :: und :: und :: und :: und :: []) h26) fun r => lk0_spec_l18Read env r.1 r.2.1 r.2.2) := by kernel_rfl
theorem e_lb0_spec_l18Read (env : Nat → Contract) (y0 y1 y2 y5 y6 y7 y8 y12 y13 y14 y15 y16 y17 y18 y19 y20 y21 y22 y23 y24 y25 y26 y27 y28 y29 y30 y31 y32 y33 y34 y83 y84 y85 y86 y87 : AV) (h : Heap) : lb0_spec_l18Read env (y0 :: y1 :: y2 :: .top :: .top :: y5 :: y6 :: y7 :: y8 :: .top :: .top :: .top :: y12 :: y13 :: y14 :: y15 :: y16 :: y17 :: y18 :: y19 :: y20 :: y21 :: y22 :: y23 :: y24 :: y25 :: y26 :: y27 :: y28 :: y29 :: y30 :: y31 :: y32 :: y33 :: y34 :: .top :: .top :: .top :: .top :: .top :: .top :: .top :: .top :: .top :: .top :: .top :: .top :: .top :: .top :: .top :: .top :: .top :: .top :: .top :: .top :: .top :: .top :: .top :: .top :: .top :: .top :: .top :: .top :: .top :: .top :: .top :: .top :: .top :: .top :: .top :: .top :: .top :: .top :: .top :: .top :: .top :: .top :: .top :: .top :: .top :: .top :: .top :: .top :: y83 :: y84 :: y85 :: y86 :: y87 :: []) h = obind (aLenK .slice y0) fun v27 => obind (aBin .lss y8 v27) fun v28 => obind2 (guardB v28 true (some (y6, h)) (some (und, h))) fun v29 h30 => obind (aPick v28 v29 (bv false)) fun v31 => condB v31 (obind (aIndexAddr 1 y0 y8 h30) fun v32 => obind (aLoad false 1 v32 h30) fun v33 => obind2 (aCall (env n_spec_l01Split) [v33, (.sc (.int .u8 32))] h30) fun v34 h35 => obind (aLenK .slice v34) fun v36 => obind (aCmp .neq .plain v36 (iv 3)) fun v37 => obind2 (guardB v37 false (obind (aIndexAddr 1 v34 (iv 0) h35) fun v38 => obind (aLoad false 1 v38 h35) fun v39 => obind (aCmp .eql .plain v39 (sv ⟨#[]⟩)) fun v40 => some (v40, h35)) (some (und, h35))) fun v41 h42 => obind (aPick v37 (bv true) v41) fun v43 => condB v43 (obind (aBuild [(iv 0), nilS] []) fun v44 => obind (aStore 2 y2 v44 h42) fun h45 => some (.ret, (y0 :: y1 :: y2 :: (bv false) :: v34 :: y5 :: y6 :: y7 :: y8 :: .top :: .top :: .top :: y12 :: y13 :: y14 :: y15 :: y16 :: y17 :: y18 :: y19 :: y20 :: y21 :: y22 :: y23 :: y24 :: y25 :: y26 :: y27 :: y28 :: y29 :: y30 :: y31 :: y32 :: y33 :: y34 :: y8 :: y0 :: v27 :: v28 :: v28 :: v29 :: v31 :: .top :: .top :: y0 :: y8 :: v32 :: v33 :: v34 :: v34 :: v36 :: v37 :: v37 :: .top :: .top :: .top :: v41 :: v43 :: v44 :: .top :: .top :: .top :: .top :: .top :: .top :: .top :: .top :: .top :: .top :: .top :: .top :: .top :: .top :: .top :: .top :: .top :: .top :: .top :: .top :: .top :: .top :: .top :: .top :: y83 :: y84 :: y85 :: y86 :: y87 :: []), h45)) (obind (aIndexAddr 1 v34 (iv 2) h42) fun v46 => obind (aLoad false 1 v46 h42) fun v47 => obind2 (aCall (env n_spec_l01Number) [v47] h42) fun v48 h49 => obind (aExtract v48 0) fun v50 => obind (aExtract v48 1) fun v51 => obind (aIndexAddr 1 v34 (iv 0) h49) fun v52 => obind (aLoad false 1 v52 h49) fun v53 => obind (aCmp .eql .plain v53 (sv ⟨#[45]⟩)) fun v54 => condB v54 (obind (aFieldAddr 1 y7) fun v55 => obind (aLoad false 1 v55 h49) fun v56 => obind (aIndexAddr 1 v34 (iv 1) h49) fun v57 => obind (aLoad false 1 v57 h49) fun v58 => obind (aBuild [(sv ⟨#[]⟩), (sv ⟨#[]⟩), (iv 0)] [(0, 1, (sv ⟨#[]⟩)), (1, 1, v58), (2, 1, v50)]) fun v59 => obind2 (aBuildSlice [(sv ⟨#[]⟩), (sv ⟨#[]⟩), (iv 0)] 1 [(0, v59)] h49) fun v60 h61 => obind2 (aAppend false 3 40 v56 v60 h61) fun v62 h63 => obind (aFieldAddr 1 y7) fun v64 => obind (aStore 1 v64 v62 h63) fun h65 => obind (aBin .add y8 (iv 1)) fun v66 => some (.normal, (y0 :: y1 :: y2 :: .top :: v34 :: y5 :: v51 :: y7 :: v66 :: v50 :: v51 :: (sv ⟨#[]⟩) :: y12 :: y13 :: y14 :: y15 :: y16 :: y17 :: y18 :: y19 :: y20 :: y21 :: y22 :: y23 :: y24 :: y25 :: y26 :: y27 :: y28 :: y29 :: y30 :: y31 :: y32 :: y33 :: y34 :: y8 :: y0 :: v27 :: v28 :: v28 :: v29 :: v31 :: y8 :: v66 :: y0 :: y8 :: v32 :: v33 :: v34 :: v34 :: v36 :: v37 :: v37 :: .top :: .top :: .top :: v41 :: v43 :: .top :: v48 :: v34 :: v46 :: v47 :: v48 :: v50 :: v51 :: v34 :: v52 :: v53 :: v53 :: v54 :: v51 :: v55 :: v56 :: (sv ⟨#[]⟩) :: v34 :: v57 :: v58 :: v50 :: v59 :: v60 :: v62 :: v64 :: y83 :: y84 :: y85 :: y86 :: y87 :: []), h65)) (obind (aFieldAddr 1 y7) fun v67 => obind (aLoad false 1 v67 h49) fun v68 => obind (aIndexAddr 1 v34 (iv 1) h49) fun v69 => obind (aLoad false 1 v69 h49) fun v70 => obind (aBuild [(sv ⟨#[]⟩), (sv ⟨#[]⟩), (iv 0)] [(0, 1, v53), (1, 1, v70), (2, 1, v50)]) fun v71 => obind2 (aBuildSlice [(sv ⟨#[]⟩), (sv ⟨#[]⟩), (iv 0)] 1 [(0, v71)] h49) fun v72 h73 => obind2 (aAppend false 3 40 v68 v72 h73) fun v74 h75 => obind (aFieldAddr 1 y7) fun v76 => obind (aStore 1 v76 v74 h75) fun h77 => obind (aBin .add y8 (iv 1)) fun v78 => some (.normal, (y0 :: y1 :: y2 :: .top :: v34 :: y5 :: v51 :: y7 :: v78 :: v50 :: v51 :: v53 :: y12 :: y13 :: y14 :: y15 :: y16 :: y17 :: y18 :: y19 :: y20 :: y21 :: y22 :: y23 :: y24 :: y25 :: y26 :: y27 :: y28 :: y29 :: y30 :: y31 :: y32 :: y33 :: y34 :: y8 :: y0 :: v27 :: v28 :: v28 :: v29 :: v31 :: y8 :: v78 :: y0 :: y8 :: v32 :: v33 :: v34 :: v34 :: v36 :: v37 :: v37 :: .top :: .top :: .top :: v41 :: v43 :: .top :: v48 :: v34 :: v46 :: v47 :: v48 :: v50 :: v51 :: v34 :: v52 :: v53 :: v53 :: v54 :: v51 :: v67 :: v68 :: v53 :: v34 :: v69 :: v70 :: v50 :: v71 :: v72 :: v74 :: v76 :: y83 :: y84 :: y85 :: y86 :: y87 :: []), h77)))) (some (.exit 0, (y0 :: y1 :: y2 :: .top :: .top :: y5 :: y6 :: y7 :: y8 :: .top :: .top :: .top :: y12 :: y13 :: y14 :: y15 :: y16 :: y17 :: y18 :: y19 :: y20 :: y21 :: y22 :: y23 :: y24 :: y25 :: y26 :: y27 :: y28 :: y29 :: y30 :: y31 :: y32 :: y33 :: y34 :: y8 :: y0 :: v27 :: v28 :: v28 :: v29 :: v31 :: .top :: .top :: .top :: .top :: .top :: .top :: .top :: .top :: .top :: .top :: .top :: .top :: .top :: .top :: .top :: .top :: .top :: .top :: .top :: .top :: .top :: .top :: .top :: .top :: .top :: .top :: .top :: .top :: .top :: .top :: .top :: .top :: .top :: .top :: .top :: .top :: .top :: .top :: .top :: .top :: .top :: y83 :: y84 :: y85 :: y86 :: y87 :: []), h30)) := by kernel_rfl
theorem e_lk0x0_spec_l18Read (env : Nat → Contract) (z0 z1 z2 z3 z4 z5 z6 z7 z8 z9 z10 z11 z12 z13 z14 z15 z16 z17 z18 z19 z20 z21 z22 z23 z24 z25 z26 z27 z28 z29 z30 z31 z32 z33 z34 z83 z84 z85 z86 z87 : AV) (h : Heap) : lk0_spec_l18Read env (.exit 0) (z0 :: z1 :: z2 :: z3 :: z4 :: z5 :: z6 :: z7 :: z8 :: z9 :: z10 :: z11 :: z12 :: z13 :: z14 :: z15 :: z16 :: z17 :: z18 :: z19 :: z20 :: z21 :: z22 :: z23 :: z24 :: z25 :: z26 :: z27 :: z28 :: z29 :: z30 :: z31 :: z32 :: z33 :: z34 :: .top :: .top :: .top :: .top :: .top :: .top :: .top :: .top :: .top :: .top :: .top :: .top :: .top :: .top :: .top :: .top :: .top :: .top :: .top :: .top :: .top :: .top :: .top :: .top :: .top :: .top :: .top :: .top :: .top :: .top :: .top :: .top :: .top :: .top :: .top :: .top :: .top :: .top :: .top :: .top :: .top :: .top :: .top :: .top :: .top :: .top :: .top :: .top :: z83 :: z84 :: z85 :: z86 :: z87 :: []) h = obind (aLoad true 2 z7 h) fun v79 => obind2 (guardB z6 true (obind2 (aCallQ (env n_spec_l18Ok) [z7] h) fun v80 h81 => some (v80, h81)) (some (und, h))) fun v82 h83 => obind (aPick z6 v82 (bv false)) fun v84 => obind (aStore 2 z2 v79 h83) fun h85 => retL [.c true 2 z2, .v v84] h85 := by kernel_rfl
theorem e_lk0r_spec_l18Read (env : Nat → Contract) (z0 z1 z2 z3 z4 z5 z6 z7 z8 z9 z10 z11 z12 z13 z14 z15 z16 z17 z18 z19 z20 z21 z22 z23 z24 z25 z26 z27 z28 z29 z30 z31 z32 z33 z34 z83 z84 z85 z86 z87 : AV) (h : Heap) : lk0_spec_l18Read env .ret (z0 :: z1 :: z2 :: z3 :: z4 :: z5 :: z6 :: z7 :: z8 :: z9 :: z10 :: z11 :: z12 :: z13 :: z14 :: z15 :: z16 :: z17 :: z18 :: z19 :: z20 :: z21 :: z22 :: z23 :: z24 :: z25 :: z26 :: z27 :: z28 :: z29 :: z30 :: z31 :: z32 :: z33 :: z34 :: .top :: .top :: .top :: .top :: .top :: .top :: .top :: .top :: .top :: .top :: .top :: .top :: .top :: .top :: .top :: .top :: .top :: .top :: .top :: .top :: .top :: .top :: .top :: .top :: .top :: .top :: .top :: .top :: .top :: .top :: .top :: .top :: .top :: .top :: .top :: .top :: .top :: .top :: .top :: .top :: .top :: .top :: .top :: .top :: .top :: .top :: .top :: .top :: z83 :: z84 :: z85 :: z86 :: z87 :: []) h = retL [.c true 2 z2, .v z3] h := by kernel_rfl
theorem hb_strings_TrimPrefix : HasBody Tryd.prog n_strings_TrimPrefix := ⟨Tryd.f47, _, Tryd.func47, rfl, by decide⟩
theorem e_strings_TrimPrefix (env : Nat → Contract) (x0 x1 : AV) (h : Heap) : denFn Tryd.prog env n_strings_TrimPrefix [x0, x1] h = obind2 (aCall (env n_internal_stringslite_TrimPrefix) [x0, x1] h) fun v1 h2 => some (v1, h2) := by kernel_rfl
noncomputable abbrev c_laws_markBigramS : Code := (Tryd.f48.body).getD .skip
noncomputable abbrev nm_laws_markBigramS : List Bool := namedOf Tryd.f48
theorem hb_laws_markBigramS : HasBody Tryd.prog n_laws_markBigramS := ⟨Tryd.f48, _, Tryd.func48, rfl, by decide⟩
abbrev hm0_laws_markBigramS : List Bool := [true, true, true, true, true, true, false, false, false, false, false, false, false, false, false, false, false, false, false, false, false, false, false, false, false, false, false, false, false, false, false, false, false, false, false, true]
abbrev xm0_laws_markBigramS : List Bool := [true, true, true, true, true, true, false, false, false, false, false, false, false, false, false, false, false, false, false, false, false, false, false, false, false, false, false, false, false, false, false, false, false, false, false, true]
noncomputable def lb0_laws_markBigramS (env : Nat → Contract) : TM → Heap → Option Res := fun tm h => denC Tryd.prog env nm_laws_markBigramS (atrlrll c_laws_markBigramS) Res tm h fun e tm h => some (e, tm, h)
noncomputable def lk0_laws_markBigramS (env : Nat → Contract) : AX → TM → Heap → Option (AV × Heap) := (kBlock 0 (kSeq Tryd.prog env nm_laws_markBigramS (atrr c_laws_markBigramS) _ (kRet Tryd.prog Tryd.f48.results.toList)))
theorem e_laws_markBigramS (env : Nat → Contract) (x0 x1 : AV) (h : Heap) : denFn Tryd.prog env n_laws_markBigramS [x0, x1] h = obind (loopP hm0_laws_markBigramS xm0_laws_markBigramS (lb0_laws_markBigramS env) [x0, x1, und, und, (iv 0), (iv 0), .top, .top, .top, .top, .top, .top, .top, .top, .top, .top, .top, .top, .top, .top, .top, .top, .top, .top, .top, .top, .top, .top, .top, .top, .top, .top, .top, .top, .top, und] h) fun r => lk0_laws_markBigramS env r.1 r.2.1 r.2.2 := by kernel_rfl
theorem e_lb0_laws_markBigramS (env : Nat → Contract) (y0 y1 y2 y3 y4 y5 y35 : AV) (h : Heap) : lb0_laws_markBigramS env [y0, y1, y2, y3, y4, y5, .top, .top, .top, .top, .top, .top, .top, .top, .top, .top, .top, .top, .top, .top, .top, .top, .top, .top, .top, .top, .top, .top, .top, .top, .top, .top, .top, .top, .top, y35] h = obind (aLenK .slice y0) fun v1 => obind (aBin .lss y5 v1) fun v2 => condB v2 (obind2 (aCall (env n_laws_markText) [y1] h) fun v3 h4 => obind (aIndexAddr 3 y0 y5 h4) fun v5 => obind (aFieldAddr 0 v5) fun v6 => obind (aStore 1 v6 v3 h4) fun h7 => obind (aBin .add y1 (iv 1)) fun v8 => obind2 (aCall (env n_laws_markText) [v8] h7) fun v9 h10 => obind (aIndexAddr 3 y0 y5 h10) fun v11 => obind (aFieldAddr 1 v11) fun v12 => obind (aStore 1 v12 v9 h10) fun h13 => obind (aBin .add v8 (iv 1)) fun v14 => obind (aIndexAddr 3 y0 y5 h13) fun v15 => obind (aFieldAddr 2 v15) fun v16 => obind (aStore 1 v16 v14 h13) fun h17 => obind (aBin .add v14 (iv 1)) fun v18 => obind (aBin .add y5 (iv 1)) fun v19 => some (.normal, [y0, v18, y2, y3, y4, v19, y5, y0, v1, v2, y5, v19, y0, y5, y1, v3, v5, v6, y1, v8, y0, y5, v8, v9, v11, v12, v8, v14, y0, y5, v14, v15, v16, v14, v18, y35], h17)) (some (.exit 0, [y0, y1, y2, y3, y4, y5, y5, y0, v1, v2, .top, .top, .top, .top, .top, .top, .top, .top, .top, .top, .top, .top, .top, .top, .top, .top, .top, .top, .top, .top, .top, .top, .top, .top, .top, y35], h)) := by kernel_rfl
theorem e_lk0x0_laws_markBigramS (env : Nat → Contract) (z0 z1 z2 z3 z4 z5 z35 : AV) (h : Heap) : lk0_laws_markBigramS env (.exit 0) [z0, z1, z2, z3, z4, z5, .top, .top, .top, .top, .top, .top, .top, .top, .top, .top, .top, .top, .top, .top, .top, .top, .top, .top, .top, .top, .top, .top, .top, .top, .top, .top, .top, .top, .top, z35] h = some (z1, h) := by kernel_rfl
noncomputable abbrev c_laws_heldBigramS : Code := (Tryd.f49.body).getD .skip
noncomputable abbrev nm_laws_heldBigramS : List Bool := namedOf Tryd.f49
theorem hb_laws_heldBigramS : HasBody Tryd.prog n_laws_heldBigramS := ⟨Tryd.f49, _, Tryd.func49, rfl, by decide⟩
abbrev hm0_laws_heldBigramS : List Bool := [true, true, true, true, false, true, false, false, false, false, false, false, false, false, false, false, false, false, false, false, false, false, false, false, false, false, false, false, false, false, false, false, false, false, false, false, false, false, false, false, false, true]
abbrev xm0_laws_heldBigramS : List Bool := [true, true, true, true, true, true, false, false, false, false, false, false, false, false, false, false, false, false, false, false, false, false, false, false, false, false, false, false, false, false, false, false, false, false, false, false, false, false, false, false, false, true]
noncomputable def lb0_laws_heldBigramS (env : Nat → Contract) : TM → Heap → Option Res := fun tm h => denC Tryd.prog env nm_laws_heldBigramS (atrlrll c_laws_heldBigramS) Res tm h fun e tm h => some (e, tm, h)
noncomputable def lk0_laws_heldBigramS (env : Nat → Contract) : AX → TM → Heap → Option (AV × Heap) := (kBlock 0 (kSeq Tryd.prog env nm_laws_heldBigramS (atrr c_laws_heldBigramS) _ (kRet Tryd.prog Tryd.f49.results.toList)))
theorem e_laws_heldBigramS (env : Nat → Contract) (x0 x1 : AV) (h : Heap) : denFn Tryd.prog env n_laws_heldBigramS [x0, x1] h = obind (loopP hm0_laws_heldBigramS xm0_laws_heldBigramS (lb0_laws_heldBigramS env) [x0, x1, und, und, .top, (iv 0), .top, .top, .top, .top, .top, .top, .top, .top, .top, .top, .top, .top, .top, .top, .top, .top, .top, .top, .top, .top, .top, .top, .top, .top, .top, .top, .top, .top, .top, .top, .top, .top, .top, .top, .top, und] h) fun r => lk0_laws_heldBigramS env r.1 r.2.1 r.2.2 := by kernel_rfl
theorem e_lb0_laws_heldBigramS (env : Nat → Contract) (y0 y1 y2 y3 y5 y41 : AV) (h : Heap) : lb0_laws_heldBigramS env [y0, y1, y2, y3, .top, y5, .top, .top, .top, .top, .top, .top, .top, .top, .top, .top, .top, .top, .top, .top, .top, .top, .top, .top, .top, .top, .top, .top, .top, .top, .top, .top, .top, .top, .top, .top, .top, .top, .top, .top, .top, y41] h = obind (aLenK .slice y0) fun v1 => obind (aBin .lss y5 v1) fun v2 => condB v2 (obind (aIndexAddr 3 y0 y5 h) fun v3 => obind (aFieldAddr 0 v3) fun v4 => obind (aLoad false 1 v4 h) fun v5 => obind2 (aCallQ (env n_laws_markText) [y1] h) fun v6 h7 => obind (aCmp .neq .plain v5 v6) fun v8 => condB v8 (some (.ret, [y0, y1, y2, y3, (iv (-1)), y5, y5, y0, v1, v2, .top, .top, y0, y5, v3, v4, v5, y1, v6, v8, .top, .top, .top, .top, .top, .top, .top, .top, .top, .top, .top, .top, .top, .top, .top, .top, .top, .top, .top, .top, .top, y41], h7)) (obind (aBin .add y1 (iv 1)) fun v9 => obind (aIndexAddr 3 y0 y5 h7) fun v10 => obind (aFieldAddr 1 v10) fun v11 => obind (aLoad false 1 v11 h7) fun v12 => obind2 (aCallQ (env n_laws_markText) [v9] h7) fun v13 h14 => obind (aCmp .neq .plain v12 v13) fun v15 => condB v15 (some (.ret, [y0, v9, y2, y3, (iv (-1)), y5, y5, y0, v1, v2, .top, .top, y0, y5, v3, v4, v5, y1, v6, v8, y1, v9, y0, y5, v10, v11, v12, v9, v13, v15, .top, .top, .top, .top, .top, .top, .top, .top, .top, .top, .top, y41], h14)) (obind (aBin .add v9 (iv 1)) fun v16 => obind (aIndexAddr 3 y0 y5 h14) fun v17 => obind (aFieldAddr 2 v17) fun v18 => obind (aLoad false 1 v18 h14) fun v19 => obind (aCmp .neq .plain v19 v16) fun v20 => condB v20 (some (.ret, [y0, v16, y2, y3, (iv (-1)), y5, y5, y0, v1, v2, .top, .top, y0, y5, v3, v4, v5, y1, v6, v8, y1, v9, y0, y5, v10, v11, v12, v9, v13, v15, v9, v16, y0, y5, v17, v18, v19, v16, v20, .top, .top, y41], h14)) (obind (aBin .add v16 (iv 1)) fun v21 => obind (aBin .add y5 (iv 1)) fun v22 => some (.normal, [y0, v21, y2, y3, .top, v22, y5, y0, v1, v2, y5, v22, y0, y5, v3, v4, v5, y1, v6, v8, y1, v9, y0, y5, v10, v11, v12, v9, v13, v15, v9, v16, y0, y5, v17, v18, v19, v16, v20, v16, v21, y41], h14))))) (some (.exit 0, [y0, y1, y2, y3, .top, y5, y5, y0, v1, v2, .top, .top, .top, .top, .top, .top, .top, .top, .top, .top, .top, .top, .top, .top, .top, .top, .top, .top, .top, .top, .top, .top, .top, .top, .top, .top, .top, .top, .top, .top, .top, y41], h)) := by kernel_rfl
theorem e_lk0x0_laws_heldBigramS (env : Nat → Contract) (z0 z1 z2 z3 z4 z5 z41 : AV) (h : Heap) : lk0_laws_heldBigramS env (.exit 0) [z0, z1, z2, z3, z4, z5, .top, .top, .top, .top, .top, .top, .top, .top, .top, .top, .top, .top, .top, .top, .top, .top, .top, .top, .top, .top, .top, .top, .top, .top, .top, .top, .top, .top, .top, .top, .top, .top, .top, .top, .top, z41] h = some (z1, h) := by kernel_rfl
theorem e_lk0r_laws_heldBigramS (env : Nat → Contract) (z0 z1 z2 z3 z4 z5 z41 : AV) (h : Heap) : lk0_laws_heldBigramS env .ret [z0, z1, z2, z3, z4, z5, .top, .top, .top, .top, .top, .top, .top, .top, .top, .top, .top, .top, .top, .top, .top, .top, .top, .top, .top, .top, .top, .top, .top, .top, .top, .top, .top, .top, .top, .top, .top, .top, .top, .top, .top, z41] h = some (z4, h) := by kernel_rfl
theorem hb_spec_l18Bigram : HasBody Tryd.prog n_spec_l18Bigram := ⟨Tryd.f51, _, Tryd.func51, rfl, by decide⟩
theorem e_spec_l18Bigram (env : Nat → Contract) (x0 : AV) (h : Heap) : denFn Tryd.prog env n_spec_l18Bigram [x0] h = obind (aNilCheck x0) fun v1 => obind (aFieldAddr 0 v1) fun v2 => obind (aLoad false 1 v2 h) fun v3 => obind2 (aCall (env n_spec_l18First) [v3] h) fun v4 h5 => obind2 (guardB v4 true (obind (aNilCheck x0) fun v6 => obind (aFieldAddr 1 v6) fun v7 => obind (aLoad false 1 v7 h5) fun v8 => obind2 (aCall (env n_spec_IsWord) [v8] h5) fun v9 h10 => some (v9, h10)) (some (und, h5))) fun v11 h12 => obind (aPick v4 v11 (bv false)) fun v13 => obind2 (guardB v13 true (obind (aNilCheck x0) fun v14 => obind (aFieldAddr 2 v14) fun v15 => obind (aLoad false 1 v15 h12) fun v16 => obind2 (aCall (env n_spec_l00In) [v16, (iv 0), (iv 1000000)] h12) fun v17 h18 => some (v17, h18)) (some (und, h12))) fun v19 h20 => obind (aPick v13 v19 (bv false)) fun v21 => some (v21, h20) := by kernel_rfl
theorem hb_spec_l18Before : HasBody Tryd.prog n_spec_l18Before := ⟨Tryd.f52, _, Tryd.func52, rfl, by decide⟩
theorem e_spec_l18Before (env : Nat → Contract) (x0 x1 : AV) (h : Heap) : denFn Tryd.prog env n_spec_l18Before [x0, x1] h = obind (aNilCheck x0) fun v1 => obind (aFieldAddr 0 v1) fun v2 => obind (aLoad false 1 v2 h) fun v3 => obind (aNilCheck x1) fun v4 => obind (aFieldAddr 0 v4) fun v5 => obind (aLoad false 1 v5 h) fun v6 => obind (aBin .lss v3 v6) fun v7 => obind2 (guardB v7 false (some (x0, h)) (some (und, h))) fun v8 h9 => obind2 (guardB v7 false (obind (aNilCheck v8) fun v10 => some (v10, h9)) (some (und, h9))) fun v11 h12 => obind2 (guardB v7 false (obind (aFieldAddr 0 v11) fun v13 => some (v13, h12)) (some (und, h12))) fun v14 h15 => obind2 (guardB v7 false (obind (aLoad false 1 v14 h15) fun v16 => some (v16, h15)) (some (und, h15))) fun v17 h18 => obind2 (guardB v7 false (some (x1, h18)) (some (und, h18))) fun v19 h20 => obind2 (guardB v7 false (obind (aNilCheck v19) fun v21 => some (v21, h20)) (some (und, h20))) fun v22 h23 => obind2 (guardB v7 false (obind (aFieldAddr 0 v22) fun v24 => some (v24, h23)) (some (und, h23))) fun v25 h26 => obind2 (guardB v7 false (obind (aLoad false 1 v25 h26) fun v27 => some (v27, h26)) (some (und, h26))) fun v28 h29 => obind2 (guardB v7 false (obind (aCmp .eql .plain v17 v28) fun v30 => some (v30, h29)) (some (und, h29))) fun v31 h32 => obind2 (guardB v7 false (some (v31, h32)) (some (und, h32))) fun v33 h34 => obind2 (guardB v33 true (some (x0, h34)) (some (und, h34))) fun v35 h36 => obind2 (guardB v33 true (obind (aNilCheck v35) fun v37 => some (v37, h36)) (some (und, h36))) fun v38 h39 => obind2 (guardB v33 true (obind (aFieldAddr 1 v38) fun v40 => some (v40, h39)) (some (und, h39))) fun v41 h42 => obind2 (guardB v33 true (obind (aLoad false 1 v41 h42) fun v43 => some (v43, h42)) (some (und, h42))) fun v44 h45 => obind2 (guardB v33 true (some (x1, h45)) (some (und, h45))) fun v46 h47 => obind2 (guardB v33 true (obind (aNilCheck v46) fun v48 => some (v48, h47)) (some (und, h47))) fun v49 h50 => obind2 (guardB v33 true (obind (aFieldAddr 1 v49) fun v51 => some (v51, h50)) (some (und, h50))) fun v52 h53 => obind2 (guardB v33 true (obind (aLoad false 1 v52 h53) fun v54 => some (v54, h53)) (some (und, h53))) fun v55 h56 => obind2 (guardB v33 true (obind (aBin .lss v44 v55) fun v57 => some (v57, h56)) (some (und, h56))) fun v58 h59 => obind2 (guardB v7 false (obind (aPick v33 v58 (bv false)) fun v60 => some (v60, h59)) (some (und, h59))) fun v61 h62 => obind (aPick v7 (bv true) v61) fun v63 => some (v63, h62) := by kernel_rfl
theorem hb_spec_l00In : HasBody Tryd.prog n_spec_l00In := ⟨Tryd.f53, _, Tryd.func53, rfl, by decide⟩
theorem e_spec_l00In (env : Nat → Contract) (x0 x1 x2 : AV) (h : Heap) : denFn Tryd.prog env n_spec_l00In [x0, x1, x2] h = obind (aBin .geq x0 x1) fun v1 => obind2 (guardB v1 true (obind (aBin .leq x0 x2) fun v2 => some (v2, h)) (some (und, h))) fun v3 h4 => obind (aPick v1 v3 (bv false)) fun v5 => some (v5, h4) := by kernel_rfl
noncomputable abbrev c_spec_l01Dec : Code := (Tryd.f54.body).getD .skip
noncomputable abbrev nm_spec_l01Dec : List Bool := namedOf Tryd.f54
theorem hb_spec_l01Dec : HasBody Tryd.prog n_spec_l01Dec := ⟨Tryd.f54, _, Tryd.func54, rfl, by decide⟩
abbrev hm0_spec_l01Dec : List Bool := [true, true, true, true, true, false, true, true, false, false, false, false, false, false, false, false, false, false, false, false, false, false, false, false, true, true, true, true, true, true, true, true, true, true]
abbrev xm0_spec_l01Dec : List Bool := [true, true, true, true, true, true, true, true, false, false, false, false, false, false, false, false, false, false, false, false, false, false, false, false, true, true, true, true, true, true, true, true, true, true]
noncomputable def lb0_spec_l01Dec (env : Nat → Contract) : TM → Heap → Option Res := fun tm h => denC Tryd.prog env nm_spec_l01Dec (atrrlrll c_spec_l01Dec) Res tm h fun e tm h => some (e, tm, h)
noncomputable def lk0_spec_l01Dec (env : Nat → Contract) : AX → TM → Heap → Option (AV × Heap) := (kBlock 0 (kSeq Tryd.prog env nm_spec_l01Dec (atrrr c_spec_l01Dec) _ (kRet Tryd.prog Tryd.f54.results.toList)))
theorem e_spec_l01Dec (env : Nat → Contract) (x0 : AV) (h : Heap) : denFn Tryd.prog env n_spec_l01Dec [x0] h = obind2 (aBuildSlice [(.sc (.int .u8 0))] 0 [] h) fun v1 h2 => obind (loopP hm0_spec_l01Dec xm0_spec_l01Dec (lb0_spec_l01Dec env) [x0, und, (sv ⟨#[]⟩), v1, x0, .top, v1, x0, .top, .top, .top, .top, .top, .top, .top, .top, .top, .top, .top, .top, .top, .top, .top, .top, und, und, und, und, und, und, und, und, und, und] h2) fun r => lk0_spec_l01Dec env r.1 r.2.1 r.2.2 := by kernel_rfl
theorem e_lb0_spec_l01Dec (env : Nat → Contract) (y0 y1 y2 y3 y4 y6 y7 y24 y25 y26 y27 y28 y29 y30 y31 y32 y33 : AV) (h : Heap) : lb0_spec_l01Dec env [y0, y1, y2, y3, y4, .top, y6, y7, .top, .top, .top, .top, .top, .top, .top, .top, .top, .top, .top, .top, .top, .top, .top, .top, y24, y25, y26, y27, y28, y29, y30, y31, y32, y33] h = obind (aCmp .neq .plain y4 (iv 0)) fun v3 => condB v3 (obind (aBin .rem y4 (iv 10)) fun v4 => obind (aBin .lss v4 (iv 0)) fun v5 => condB v5 (obind (aUn .neg v4) fun v6 => obind (aBin .add (iv 48) v6) fun v7 => obind (aConvInt .u8 v7) fun v8 => obind2 (aBuildSlice [(.sc (.int .u8 0))] 1 [(0, v8)] h) fun v9 h10 => obind2 (aAppend false 1 1 v9 y3 h10) fun v11 h12 => obind (aBin .quo y4 (iv 10)) fun v13 => some (.normal, [y0, y1, y2, v11, v13, v6, y6, y7, y4, v3, y4, v13, y4, v4, v4, v5, v4, v6, v6, v7, v8, v9, y3, v11, y24, y25, y26, y27, y28, y29, y30, y31, y32, y33], h12)) (obind (aBin .add (iv 48) v4) fun v14 => obind (aConvInt .u8 v14) fun v15 => obind2 (aBuildSlice [(.sc (.int .u8 0))] 1 [(0, v15)] h) fun v16 h17 => obind2 (aAppend false 1 1 v16 y3 h17) fun v18 h19 => obind (aBin .quo y4 (iv 10)) fun v20 => some (.normal, [y0, y1, y2, v18, v20, v4, y6, y7, y4, v3, y4, v20, y4, v4, v4, v5, .top, .top, v4, v14, v15, v16, y3, v18, y24, y25, y26, y27, y28, y29, y30, y31, y32, y33], h19))) (some (.exit 0, [y0, y1, y2, y3, y4, .top, y6, y7, y4, v3, .top, .top, .top, .top, .top, .top, .top, .top, .top, .top, .top, .top, .top, .top, y24, y25, y26, y27, y28, y29, y30, y31, y32, y33], h)) := by kernel_rfl
theorem e_lk0x0_spec_l01Dec (env : Nat → Contract) (z0 z1 z2 z3 z4 z5 z6 z7 z24 z25 z26 z27 z28 z29 z30 z31 z32 z33 : AV) (h : Heap) : lk0_spec_l01Dec env (.exit 0) [z0, z1, z2, z3, z4, z5, z6, z7, .top, .top, .top, .top, .top, .top, .top, .top, .top, .top, .top, .top, .top, .top, .top, .top, z24, z25, z26, z27, z28, z29, z30, z31, z32, z33] h = obind (aLenK .slice z3) fun v21 => obind (aCmp .eql .plain v21 (iv 0)) fun v22 => condB v22 (some ((sv ⟨#[48]⟩), h)) (obind (aBin .lss z0 (iv 0)) fun v23 => condB v23 (obind (aConvStr z3 h) fun v24 => obind (aBin .add (sv ⟨#[45]⟩) v24) fun v25 => some (v25, h)) (obind (aConvStr z3 h) fun v26 => some (v26, h))) := by kernel_rfl
theorem hb_impl_validBigram : HasBody Tryd.prog n_impl_validBigram := ⟨Tryd.f56, _, Tryd.func56, rfl, by decide⟩
theorem e_impl_validBigram (env : Nat → Contract) (x0 : AV) (h : Heap) : denFn Tryd.prog env n_impl_validBigram [x0] h = obind2 (aBox (AV.cells x0) h) fun v1 h2 => obind (aFieldAddr 1 v1) fun v3 => obind (aLoad false 1 v3 h2) fun v4 => obind2 (aCall (env n_impl_IsWord) [v4] h2) fun v5 h6 => obind2 (guardB v5 true (obind (aFieldAddr 0 v1) fun v7 => obind (aLoad false 1 v7 h6) fun v8 => obind (aCmp .eql .plain v8 (sv ⟨#[]⟩)) fun v9 => some (v9, h6)) (some (und, h6))) fun v10 h11 => obind2 (guardB v10 false (obind (aFieldAddr 0 v1) fun v12 => obind (aLoad false 1 v12 h11) fun v13 => obind2 (aCall (env n_impl_IsWord) [v13] h11) fun v14 h15 => some (v14, h15)) (some (und, h11))) fun v16 h17 => obind2 (guardB v5 true (obind (aPick v10 (bv true) v16) fun v18 => some (v18, h17)) (some (und, h17))) fun v19 h20 => obind (aPick v5 v19 (bv false)) fun v21 => obind2 (guardB v21 true (obind (aFieldAddr 2 v1) fun v22 => obind (aLoad false 1 v22 h20) fun v23 => obind2 (aCall (env n_impl_isCost) [v23] h20) fun v24 h25 => some (v24, h25)) (some (und, h20))) fun v26 h27 => obind (aPick v21 v26 (bv false)) fun v28 => some (v28, h27) := by kernel_rfl
theorem hb_impl_compareBigrams : HasBody Tryd.prog n_impl_compareBigrams := ⟨Tryd.f57, _, Tryd.func57, rfl, by decide⟩
theorem e_impl_compareBigrams (env : Nat → Contract) (x0 x1 : AV) (h : Heap) : denFn Tryd.prog env n_impl_compareBigrams [x0, x1] h = obind2 (aBox (AV.cells x0) h) fun v1 h2 => obind2 (aBox (AV.cells x1) h2) fun v3 h4 => obind (aFieldAddr 0 v1) fun v5 => obind (aLoad false 1 v5 h4) fun v6 => obind (aFieldAddr 0 v3) fun v7 => obind (aLoad false 1 v7 h4) fun v8 => obind2 (aCallQ (env n_cmp_Compare_string) [v6, v8] h4) fun v9 h10 => obind (aFieldAddr 1 v1) fun v11 => obind (aLoad false 1 v11 h10) fun v12 => obind (aFieldAddr 1 v3) fun v13 => obind (aLoad false 1 v13 h10) fun v14 => obind2 (aCallQ (env n_cmp_Compare_string) [v12, v14] h10) fun v15 h16 => obind2 (aBuildSlice [(iv 0)] 2 [(0, v9), (1, v15)] h16) fun v17 h18 => obind2 (aCallQ (env n_cmp_Or_int) [v17] h18) fun v19 h20 => some (v19, h20) := by kernel_rfl
theorem hb_impl_isCost : HasBody Tryd.prog n_impl_isCost := ⟨Tryd.f58, _, Tryd.func58, rfl, by decide⟩
theorem e_impl_isCost (env : Nat → Contract) (x0 : AV) (h : Heap) : denFn Tryd.prog env n_impl_isCost [x0] h = obind2 (aCall (env n_impl_within) [x0, (iv 0), (iv 1000000)] h) fun v1 h2 => some (v1, h2) := by kernel_rfl
theorem hb_strconv_FormatInt : HasBody Tryd.prog n_strconv_FormatInt := ⟨Tryd.f60, _, Tryd.func60, rfl, by decide⟩
theorem e_strconv_FormatInt (env : Nat → Contract) (x0 x1 : AV) (h : Heap) : denFn Tryd.prog env n_strconv_FormatInt [x0, x1] h = obind2 (aCall (env n_internal_strconv_FormatInt) [x0, x1] h) fun v1 h2 => some (v1, h2) := by kernel_rfl
theorem hb_laws_eqBigram : HasBody Tryd.prog n_laws_eqBigram := ⟨Tryd.f61, _, Tryd.func61, rfl, by decide⟩
theorem e_laws_eqBigram (env : Nat → Contract) (x0 x1 : AV) (h : Heap) : denFn Tryd.prog env n_laws_eqBigram [x0, x1] h = obind2 (aBox (AV.cells x0) h) fun v1 h2 => obind2 (aBox (AV.cells x1) h2) fun v3 h4 => obind (aFieldAddr 0 v1) fun v5 => obind (aLoad false 1 v5 h4) fun v6 => obind (aFieldAddr 0 v3) fun v7 => obind (aLoad false 1 v7 h4) fun v8 => obind (aCmp .neq .plain v6 v8) fun v9 => condB v9 (some ((bv false), h4)) (obind (aFieldAddr 1 v1) fun v10 => obind (aLoad false 1 v10 h4) fun v11 => obind (aFieldAddr 1 v3) fun v12 => obind (aLoad false 1 v12 h4) fun v13 => obind (aCmp .neq .plain v11 v13) fun v14 => condB v14 (some ((bv false), h4)) (obind (aFieldAddr 2 v1) fun v15 => obind (aLoad false 1 v15 h4) fun v16 => obind (aFieldAddr 2 v3) fun v17 => obind (aLoad false 1 v17 h4) fun v18 => obind (aCmp .neq .plain v16 v18) fun v19 => condB v19 (some ((bv false), h4)) (some ((bv true), h4)))) := by kernel_rfl
theorem hb_slices_ContainsFunc_impl_Symbol_impl_Symbol : HasBody Tryd.prog n_slices_ContainsFunc_impl_Symbol_impl_Symbol := ⟨Tryd.f65, _, Tryd.func65, rfl, by decide⟩
theorem e_slices_ContainsFunc_impl_Symbol_impl_Symbol (env : Nat → Contract) (x0 x1 : AV) (h : Heap) : denFn Tryd.prog env n_slices_ContainsFunc_impl_Symbol_impl_Symbol [x0, x1] h = obind2 (aCall (env n_slices_IndexFunc_impl_Symbol_impl_Symbol) [x0, x1] h) fun v1 h2 => obind (aBin .geq v1 (iv 0)) fun v3 => some (v3, h2) := by kernel_rfl
theorem hb_impl_ValidSymbols_1 : HasBody Tryd.prog n_impl_ValidSymbols_1 := ⟨Tryd.f66, _, Tryd.func66, rfl, by decide⟩
theorem e_impl_ValidSymbols_1 (env : Nat → Contract) (x0 : AV) (h : Heap) : denFn Tryd.prog env n_impl_ValidSymbols_1 [x0] h = obind2 (aBox (AV.cells x0) h) fun v1 h2 => obind (aFieldAddr 0 v1) fun v3 => obind (aLoad false 1 v3 h2) fun v4 => obind2 (aCall (env n_impl_IsLabel) [v4] h2) fun v5 h6 => obind (aUn .not v5) fun v7 => obind2 (guardB v7 false (obind (aFieldAddr 1 v1) fun v8 => obind (aLoad true 4 v8 h6) fun v9 => obind2 (aCall (env n_impl_ValidBox) [v9] h6) fun v10 h11 => obind (aUn .not v10) fun v12 => some (v12, h11)) (some (und, h6))) fun v13 h14 => obind (aPick v7 (bv true) v13) fun v15 => some (v15, h14) := by kernel_rfl
theorem hb_impl_IsLabel : HasBody Tryd.prog n_impl_IsLabel := ⟨Tryd.f67, _, Tryd.func67, rfl, by decide⟩
theorem e_impl_IsLabel (env : Nat → Contract) (x0 : AV) (h : Heap) : denFn Tryd.prog env n_impl_IsLabel [x0] h = obind (aLenK .str x0) fun v1 => obind (aCmp .eql .plain v1 (iv 1)) fun v2 => obind2 (guardB v2 true (obind (aIndexStr x0 (iv 0)) fun v3 => obind2 (aCall (env n_impl_isLetter) [v3] h) fun v4 h5 => some (v4, h5)) (some (und, h))) fun v6 h7 => obind2 (guardB v6 false (obind2 (aCall (env n_strings_Contains) [(sv ⟨#[48, 49, 50, 51, 52, 53, 54, 55, 56, 57, 43, 45, 42, 47, 61, 40, 41, 46, 44]⟩), x0] h7) fun v8 h9 => some (v8, h9)) (some (und, h7))) fun v10 h11 => obind2 (guardB v2 true (obind (aPick v6 (bv true) v10) fun v12 => some (v12, h11)) (some (und, h11))) fun v13 h14 => obind (aPick v2 v13 (bv false)) fun v15 => some (v15, h14) := by kernel_rfl
theorem hb_impl_ValidBox : HasBody Tryd.prog n_impl_ValidBox := ⟨Tryd.f68, _, Tryd.func68, rfl, by decide⟩
theorem e_impl_ValidBox (env : Nat → Contract) (x0 : AV) (h : Heap) : denFn Tryd.prog env n_impl_ValidBox [x0] h = obind2 (aBox (AV.cells x0) h) fun v1 h2 => obind (aFieldAddr 0 v1) fun v3 => obind (aLoad false 1 v3 h2) fun v4 => obind (aFieldAddr 2 v1) fun v5 => obind (aLoad false 1 v5 h2) fun v6 => obind2 (aCall (env n_impl_within) [v4, (iv 0), v6] h2) fun v7 h8 => obind2 (guardB v7 true (obind (aFieldAddr 1 v1) fun v9 => obind (aLoad false 1 v9 h8) fun v10 => obind (aFieldAddr 3 v1) fun v11 => obind (aLoad false 1 v11 h8) fun v12 => obind2 (aCall (env n_impl_within) [v10, (iv 0), v12] h8) fun v13 h14 => some (v13, h14)) (some (und, h8))) fun v15 h16 => obind (aPick v7 v15 (bv false)) fun v17 => obind2 (guardB v17 true (obind (aFieldAddr 2 v1) fun v18 => obind (aLoad false 1 v18 h16) fun v19 => obind (aBin .leq v19 (iv 4095)) fun v20 => some (v20, h16)) (some (und, h16))) fun v21 h22 => obind (aPick v17 v21 (bv false)) fun v23 => obind2 (guardB v23 true (obind (aFieldAddr 3 v1) fun v24 => obind (aLoad false 1 v24 h22) fun v25 => obind (aBin .leq v25 (iv 4095)) fun v26 => some (v26, h22)) (some (und, h22))) fun v27 h28 => obind (aPick v23 v27 (bv false)) fun v29 => some (v29, h28) := by kernel_rfl
noncomputable abbrev c_spec_l01Number : Code := (Tryd.f70.body).getD .skip
noncomputable abbrev nm_spec_l01Number : List Bool := namedOf Tryd.f70
theorem hb_spec_l01Number : HasBody Tryd.prog n_spec_l01Number := ⟨Tryd.f70, _, Tryd.func70, rfl, by decide⟩
abbrev hm0_spec_l01Number : List Bool := [true, true, false, false, true, true, true, true, true, true, true, true, true, true, true, true, true, true, true, true, true, true, true, true, true, false, false, false, false, false, false, false, false, false, false, false, false, false, false, false, false, false, false, false, true, true, true, true, true, true, true, true, true, true, true, true]
abbrev xm0_spec_l01Number : List Bool := [true, true, true, true, true, true, true, true, true, true, true, true, true, true, true, true, true, true, true, true, true, true, true, true, true, false, false, false, false, false, false, false, false, false, false, false, false, false, false, false, false, false, false, false, true, true, true, true, true, true, true, true, true, true, true, true]
noncomputable def lb0_spec_l01Number (env : Nat → Contract) : TM → Heap → Option Res := fun tm h => denC Tryd.prog env nm_spec_l01Number (atrrrrrlrll c_spec_l01Number) Res tm h fun e tm h => some (e, tm, h)
noncomputable def lk0_spec_l01Number (env : Nat → Contract) : AX → TM → Heap → Option (AV × Heap) := (kBlock 0 (kSeq Tryd.prog env nm_spec_l01Number (atrrrrrr c_spec_l01Number) _ (kRet Tryd.prog Tryd.f70.results.toList)))
abbrev hm1_spec_l01Number : List Bool := [true, true, false, false, true, true, true, true, true, true, true, true, true, true, true, true, true, true, true, true, true, true, true, true, true, false, false, false, false, false, false, false, false, false, false, false, false, false, false, false, false, false, false, false, true, true, true, true, true, true, true, true, true, true, true, true]
abbrev xm1_spec_l01Number : List Bool := [true, true, true, true, true, true, true, true, true, true, true, true, true, true, true, true, true, true, true, true, true, true, true, true, true, false, false, false, false, false, false, false, false, false, false, false, false, false, false, false, false, false, false, false, true, true, true, true, true, true, true, true, true, true, true, true]
noncomputable def lb1_spec_l01Number (env : Nat → Contract) : TM → Heap → Option Res := fun tm h => denC Tryd.prog env nm_spec_l01Number (atrrrrrlrll c_spec_l01Number) Res tm h fun e tm h => some (e, tm, h)
noncomputable def lk1_spec_l01Number (env : Nat → Contract) : AX → TM → Heap → Option (AV × Heap) := (kBlock 0 (kSeq Tryd.prog env nm_spec_l01Number (atrrrrrr c_spec_l01Number) _ (kRet Tryd.prog Tryd.f70.results.toList)))
theorem e_spec_l01Number (env : Nat → Contract) (x0 : AV) (h : Heap) : denFn Tryd.prog env n_spec_l01Number [x0] h = obind (aCmp .neq .plain x0 (sv ⟨#[]⟩)) fun v1 => obind2 (guardB v1 true (obind (aIndexStr x0 (iv 0)) fun v2 => obind (aCmp .eql .plain v2 (.sc (.int .u8 45))) fun v3 => some (v3, h)) (some (und, h))) fun v4 h5 => obind (aPick v1 v4 (bv false)) fun v6 => condB v6 (obind (aSliceStr x0 (some (iv 1)) none) fun v7 => obind (aLenK .str v7) fun v8 => obind (aBin .lss v8 (iv 1)) fun v9 => obind2 (guardB v9 false (obind (aLenK .str v7) fun v10 => obind (aBin .gtr v10 (iv 18)) fun v11 => some (v11, h5)) (some (und, h5))) fun v12 h13 => obind (aPick v9 (bv true) v12) fun v14 => condB v14 (some ((.tup [(iv 0), (bv false)]), h13)) (obind (loopP hm0_spec_l01Number xm0_spec_l01Number (lb0_spec_l01Number env) [x0, und, .top, .top, v7, (iv 0), (iv 0), x0, x0, v1, v1, .top, .top, v4, v6, x0, v7, v7, v8, v9, v9, .top, .top, v12, v14, .top, .top, .top, .top, .top, .top, .top, .top, .top, .top, .top, .top, .top, .top, .top, .top, .top, .top, .top, und, und, und, und, und, und, und, und, und, und, und, und] h13) fun r => lk0_spec_l01Number env r.1 r.2.1 r.2.2)) (obind (aLenK .str x0) fun v15 => obind (aBin .lss v15 (iv 1)) fun v16 => obind2 (guardB v16 false (obind (aLenK .str x0) fun v17 => obind (aBin .gtr v17 (iv 18)) fun v18 => some (v18, h5)) (some (und, h5))) fun v19 h20 => obind (aPick v16 (bv true) v19) fun v21 => condB v21 (some ((.tup [(iv 0), (bv false)]), h20)) (obind (loopP hm1_spec_l01Number xm1_spec_l01Number (lb1_spec_l01Number env) [x0, und, .top, .top, x0, (iv 0), (iv 0), x0, x0, v1, v1, .top, .top, v4, v6, und, und, x0, v15, v16, v16, .top, .top, v19, v21, .top, .top, .top, .top, .top, .top, .top, .top, .top, .top, .top, .top, .top, .top, .top, .top, .top, .top, .top, und, und, und, und, und, und, und, und, und, und, und, und] h20) fun r => lk1_spec_l01Number env r.1 r.2.1 r.2.2)) := by kernel_rfl
theorem e_lb0_spec_l01Number (env : Nat → Contract) (y0 y1 y4 y5 y6 y7 y8 y9 y10 y11 y12 y13 y14 y15 y16 y17 y18 y19 y20 y21 y22 y23 y24 y44 y45 y46 y47 y48 y49 y50 y51 y52 y53 y54 y55 : AV) (h : Heap) : lb0_spec_l01Number env [y0, y1, .top, .top, y4, y5, y6, y7, y8, y9, y10, y11, y12, y13, y14, y15, y16, y17, y18, y19, y20, y21, y22, y23, y24, .top, .top, .top, .top, .top, .top, .top, .top, .top, .top, .top, .top, .top, .top, .top, .top, .top, .top, .top, y44, y45, y46, y47, y48, y49, y50, y51, y52, y53, y54, y55] h = obind (aLenK .str y4) fun v22 => obind (aBin .lss y6 v22) fun v23 => condB v23 (obind (aIndexStr y4 y6) fun v24 => obind2 (aCall (env n_spec_l01Digit) [v24] h) fun v25 h26 => obind (aUn .not v25) fun v27 => condB v27 (some (.ret, [y0, y1, (iv 0), (bv false), y4, y5, y6, y7, y8, y9, y10, y11, y12, y13, y14, y15, y16, y17, y18, y19, y20, y21, y22, y23, y24, y6, y4, v22, v23, .top, .top, y4, y6, v24, v25, v27, .top, .top, .top, .top, .top, .top, .top, .top, y44, y45, y46, y47, y48, y49, y50, y51, y52, y53, y54, y55], h26)) (obind (aBin .mul (iv 10) y5) fun v28 => obind (aIndexStr y4 y6) fun v29 => obind (aBin .sub v29 (.sc (.int .u8 48))) fun v30 => obind (aConvInt .i64 v30) fun v31 => obind (aBin .add v28 v31) fun v32 => obind (aBin .add y6 (iv 1)) fun v33 => some (.normal, [y0, y1, .top, .top, y4, v32, v33, y7, y8, y9, y10, y11, y12, y13, y14, y15, y16, y17, y18, y19, y20, y21, y22, y23, y24, y6, y4, v22, v23, y6, v33, y4, y6, v24, v25, v27, y5, v28, y4, y6, v29, v30, v31, v32, y44, y45, y46, y47, y48, y49, y50, y51, y52, y53, y54, y55], h26))) (some (.exit 0, [y0, y1, .top, .top, y4, y5, y6, y7, y8, y9, y10, y11, y12, y13, y14, y15, y16, y17, y18, y19, y20, y21, y22, y23, y24, y6, y4, v22, v23, .top, .top, .top, .top, .top, .top, .top, .top, .top, .top, .top, .top, .top, .top, .top, y44, y45, y46, y47, y48, y49, y50, y51, y52, y53, y54, y55], h)) := by kernel_rfl
theorem e_lk0x0_spec_l01Number (env : Nat → Contract) (z0 z1 z2 z3 z4 z5 z6 z7 z8 z9 z10 z11 z12 z13 z14 z15 z16 z17 z18 z19 z20 z21 z22 z23 z24 z44 z45 z46 z47 z48 z49 z50 z51 z52 z53 z54 z55 : AV) (h : Heap) : lk0_spec_l01Number env (.exit 0) [z0, z1, z2, z3, z4, z5, z6, z7, z8, z9, z10, z11, z12, z13, z14, z15, z16, z17, z18, z19, z20, z21, z22, z23, z24, .top, .top, .top, .top, .top, .top, .top, .top, .top, .top, .top, .top, .top, .top, .top, .top, .top, .top, .top, z44, z45, z46, z47, z48, z49, z50, z51, z52, z53, z54, z55] h = obind (aLenK .str z4) fun v34 => obind (aLenK .str z0) fun v35 => obind (aBin .lss v34 v35) fun v36 => condB v36 (obind (aUn .neg z5) fun v37 => obind2 (aCall (env n_spec_l01Dec) [v37] h) fun v38 h39 => obind (aCmp .neq .plain v38 z0) fun v40 => condB v40 (some ((.tup [(iv 0), (bv false)]), h39)) (some ((.tup [v37, (bv true)]), h39))) (obind2 (aCall (env n_spec_l01Dec) [z5] h) fun v41 h42 => obind (aCmp .neq .plain v41 z0) fun v43 => condB v43 (some ((.tup [(iv 0), (bv false)]), h42)) (some ((.tup [z5, (bv true)]), h42))) := by kernel_rfl
theorem e_lk0r_spec_l01Number (env : Nat → Contract) (z0 z1 z2 z3 z4 z5 z6 z7 z8 z9 z10 z11 z12 z13 z14 z15 z16 z17 z18 z19 z20 z21 z22 z23 z24 z44 z45 z46 z47 z48 z49 z50 z51 z52 z53 z54 z55 : AV) (h : Heap) : lk0_spec_l01Number env .ret [z0, z1, z2, z3, z4, z5, z6, z7, z8, z9, z10, z11, z12, z13, z14, z15, z16, z17, z18, z19, z20, z21, z22, z23, z24, .top, .top, .top, .top, .top, .top, .top, .top, .top, .top, .top, .top, .top, .top, .top, .top, .top, .top, .top, z44, z45, z46, z47, z48, z49, z50, z51, z52, z53, z54, z55] h = some ((.tup [z2, z3]), h) := by kernel_rfl
theorem e_lb1_spec_l01Number (env : Nat → Contract) (y0 y1 y4 y5 y6 y7 y8 y9 y10 y11 y12 y13 y14 y15 y16 y17 y18 y19 y20 y21 y22 y23 y24 y44 y45 y46 y47 y48 y49 y50 y51 y52 y53 y54 y55 : AV) (h : Heap) : lb1_spec_l01Number env [y0, y1, .top, .top, y4, y5, y6, y7, y8, y9, y10, y11, y12, y13, y14, y15, y16, y17, y18, y19, y20, y21, y22, y23, y24, .top, .top, .top, .top, .top, .top, .top, .top, .top, .top, .top, .top, .top, .top, .top, .top, .top, .top, .top, y44, y45, y46, y47, y48, y49, y50, y51, y52, y53, y54, y55] h = obind (aLenK .str y4) fun v44 => obind (aBin .lss y6 v44) fun v45 => condB v45 (obind (aIndexStr y4 y6) fun v46 => obind2 (aCall (env n_spec_l01Digit) [v46] h) fun v47 h48 => obind (aUn .not v47) fun v49 => condB v49 (some (.ret, [y0, y1, (iv 0), (bv false), y4, y5, y6, y7, y8, y9, y10, y11, y12, y13, y14, y15, y16, y17, y18, y19, y20, y21, y22, y23, y24, y6, y4, v44, v45, .top, .top, y4, y6, v46, v47, v49, .top, .top, .top, .top, .top, .top, .top, .top, y44, y45, y46, y47, y48, y49, y50, y51, y52, y53, y54, y55], h48)) (obind (aBin .mul (iv 10) y5) fun v50 => obind (aIndexStr y4 y6) fun v51 => obind (aBin .sub v51 (.sc (.int .u8 48))) fun v52 => obind (aConvInt .i64 v52) fun v53 => obind (aBin .add v50 v53) fun v54 => obind (aBin .add y6 (iv 1)) fun v55 => some (.normal, [y0, y1, .top, .top, y4, v54, v55, y7, y8, y9, y10, y11, y12, y13, y14, y15, y16, y17, y18, y19, y20, y21, y22, y23, y24, y6, y4, v44, v45, y6, v55, y4, y6, v46, v47, v49, y5, v50, y4, y6, v51, v52, v53, v54, y44, y45, y46, y47, y48, y49, y50, y51, y52, y53, y54, y55], h48))) (some (.exit 0, [y0, y1, .top, .top, y4, y5, y6, y7, y8, y9, y10, y11, y12, y13, y14, y15, y16, y17, y18, y19, y20, y21, y22, y23, y24, y6, y4, v44, v45, .top, .top, .top, .top, .top, .top, .top, .top, .top, .top, .top, .top, .top, .top, .top, y44, y45, y46, y47, y48, y49, y50, y51, y52, y53, y54, y55], h)) := by kernel_rfl
theorem e_lk1x0_spec_l01Number (env : Nat → Contract) (z0 z1 z2 z3 z4 z5 z6 z7 z8 z9 z10 z11 z12 z13 z14 z15 z16 z17 z18 z19 z20 z21 z22 z23 z24 z44 z45 z46 z47 z48 z49 z50 z51 z52 z53 z54 z55 : AV) (h : Heap) : lk1_spec_l01Number env (.exit 0) [z0, z1, z2, z3, z4, z5, z6, z7, z8, z9, z10, z11, z12, z13, z14, z15, z16, z17, z18, z19, z20, z21, z22, z23, z24, .top, .top, .top, .top, .top, .top, .top, .top, .top, .top, .top, .top, .top, .top, .top, .top, .top, .top, .top, z44, z45, z46, z47, z48, z49, z50, z51, z52, z53, z54, z55] h = obind (aLenK .str z4) fun v56 => obind (aLenK .str z0) fun v57 => obind (aBin .lss v56 v57) fun v58 => condB v58 (obind (aUn .neg z5) fun v59 => obind2 (aCall (env n_spec_l01Dec) [v59] h) fun v60 h61 => obind (aCmp .neq .plain v60 z0) fun v62 => condB v62 (some ((.tup [(iv 0), (bv false)]), h61)) (some ((.tup [v59, (bv true)]), h61))) (obind2 (aCall (env n_spec_l01Dec) [z5] h) fun v63 h64 => obind (aCmp .neq .plain v63 z0) fun v65 => condB v65 (some ((.tup [(iv 0), (bv false)]), h64)) (some ((.tup [z5, (bv true)]), h64))) := by kernel_rfl
theorem e_lk1r_spec_l01Number (env : Nat → Contract) (z0 z1 z2 z3 z4 z5 z6 z7 z8 z9 z10 z11 z12 z13 z14 z15 z16 z17 z18 z19 z20 z21 z22 z23 z24 z44 z45 z46 z47 z48 z49 z50 z51 z52 z53 z54 z55 : AV) (h : Heap) : lk1_spec_l01Number env .ret [z0, z1, z2, z3, z4, z5, z6, z7, z8, z9, z10, z11, z12, z13, z14, z15, z16, z17, z18, z19, z20, z21, z22, z23, z24, .top, .top, .top, .top, .top, .top, .top, .top, .top, .top, .top, .top, .top, .top, .top, .top, .top, .top, .top, z44, z45, z46, z47, z48, z49, z50, z51, z52, z53, z54, z55] h = some ((.tup [z2, z3]), h) := by kernel_rfl
theorem hb_strings_HasSuffix : HasBody Tryd.prog n_strings_HasSuffix := ⟨Tryd.f71, _, Tryd.func71, rfl, by decide⟩
theorem e_strings_HasSuffix (env : Nat → Contract) (x0 x1 : AV) (h : Heap) : denFn Tryd.prog env n_strings_HasSuffix [x0, x1] h = obind2 (aCall (env n_internal_stringslite_HasSuffix) [x0, x1] h) fun v1 h2 => some (v1, h2) := by kernel_rfl
theorem hb_strings_TrimSuffix : HasBody Tryd.prog n_strings_TrimSuffix := ⟨Tryd.f73, _, Tryd.func73, rfl, by decide⟩
theorem e_strings_TrimSuffix (env : Nat → Contract) (x0 x1 : AV) (h : Heap) : denFn Tryd.prog env n_strings_TrimSuffix [x0, x1] h = obind2 (aCall (env n_internal_stringslite_TrimSuffix) [x0, x1] h) fun v1 h2 => some (v1, h2) := by kernel_rfl
theorem hb_internal_stringslite_TrimPrefix : HasBody Tryd.prog n_internal_stringslite_TrimPrefix := ⟨Tryd.f75, _, Tryd.func75, rfl, by decide⟩
theorem e_internal_stringslite_TrimPrefix (env : Nat → Contract) (x0 x1 : AV) (h : Heap) : denFn Tryd.prog env n_internal_stringslite_TrimPrefix [x0, x1] h = obind2 (aCall (env n_internal_stringslite_HasPrefix) [x0, x1] h) fun v1 h2 => condB v1 (obind (aLenK .str x1) fun v3 => obind (aSliceStr x0 (some v3) none) fun v4 => some (v4, h2)) (some (x0, h2)) := by kernel_rfl
theorem hb_spec_l18First : HasBody Tryd.prog n_spec_l18First := ⟨Tryd.f76, _, Tryd.func76, rfl, by decide⟩
theorem e_spec_l18First (env : Nat → Contract) (x0 : AV) (h : Heap) : denFn Tryd.prog env n_spec_l18First [x0] h = obind (aCmp .eql .plain x0 (sv ⟨#[]⟩)) fun v1 => obind2 (guardB v1 false (obind2 (aCall (env n_spec_IsWord) [x0] h) fun v2 h3 => some (v2, h3)) (some (und, h))) fun v4 h5 => obind (aPick v1 (bv true) v4) fun v6 => some (v6, h5) := by kernel_rfl
noncomputable abbrev c_spec_IsWord : Code := (Tryd.f77.body).getD .skip
noncomputable abbrev nm_spec_IsWord : List Bool := namedOf Tryd.f77
theorem hb_spec_IsWord : HasBody Tryd.prog n_spec_IsWord := ⟨Tryd.f77, _, Tryd.func77, rfl, by decide⟩
abbrev hm0_spec_IsWord : List Bool := [true, true, false, true, false, false, false, false, false, false, false, false, false, false, false, true, true, true]
abbrev xm0_spec_IsWord : List Bool := [true, true, true, true, false, false, false, false, false, false, false, false, false, false, false, true, true, true]
noncomputable def lb0_spec_IsWord (env : Nat → Contract) : TM → Heap → Option Res := fun tm h => denC Tryd.prog env nm_spec_IsWord (atrlrll c_spec_IsWord) Res tm h fun e tm h => some (e, tm, h)
noncomputable def lk0_spec_IsWord (env : Nat → Contract) : AX → TM → Heap → Option (AV × Heap) := (kBlock 0 (kSeq Tryd.prog env nm_spec_IsWord (atrr c_spec_IsWord) _ (kRet Tryd.prog Tryd.f77.results.toList)))
theorem e_spec_IsWord (env : Nat → Contract) (x0 : AV) (h : Heap) : denFn Tryd.prog env n_spec_IsWord [x0] h = obind (loopP hm0_spec_IsWord xm0_spec_IsWord (lb0_spec_IsWord env) [x0, und, .top, (iv 0), .top, .top, .top, .top, .top, .top, .top, .top, .top, .top, .top, und, und, und] h) fun r => lk0_spec_IsWord env r.1 r.2.1 r.2.2 := by kernel_rfl
theorem e_lb0_spec_IsWord (env : Nat → Contract) (y0 y1 y3 y15 y16 y17 : AV) (h : Heap) : lb0_spec_IsWord env [y0, y1, .top, y3, .top, .top, .top, .top, .top, .top, .top, .top, .top, .top, .top, y15, y16, y17] h = obind (aLenK .str y0) fun v1 => obind (aBin .lss y3 v1) fun v2 => condB v2 (obind (aIndexStr y0 y3) fun v3 => obind2 (aCall (env n_spec_l01Small) [v3] h) fun v4 h5 => obind (aUn .not v4) fun v6 => condB v6 (some (.ret, [y0, y1, (bv false), y3, y3, y0, v1, v2, .top, .top, y0, y3, v3, v4, v6, y15, y16, y17], h5)) (obind (aBin .add y3 (iv 1)) fun v7 => some (.normal, [y0, y1, .top, v7, y3, y0, v1, v2, y3, v7, y0, y3, v3, v4, v6, y15, y16, y17], h5))) (some (.exit 0, [y0, y1, .top, y3, y3, y0, v1, v2, .top, .top, .top, .top, .top, .top, .top, y15, y16, y17], h)) := by kernel_rfl
theorem e_lk0x0_spec_IsWord (env : Nat → Contract) (z0 z1 z2 z3 z15 z16 z17 : AV) (h : Heap) : lk0_spec_IsWord env (.exit 0) [z0, z1, z2, z3, .top, .top, .top, .top, .top, .top, .top, .top, .top, .top, .top, z15, z16, z17] h = obind (aLenK .str z0) fun v8 => obind2 (aCall (env n_spec_l00In) [v8, (iv 1), (iv 10)] h) fun v9 h10 => some (v9, h10) := by kernel_rfl
theorem e_lk0r_spec_IsWord (env : Nat → Contract) (z0 z1 z2 z3 z15 z16 z17 : AV) (h : Heap) : lk0_spec_IsWord env .ret [z0, z1, z2, z3, .top, .top, .top, .top, .top, .top, .top, .top, .top, .top, .top, z15, z16, z17] h = some (z2, h) := by kernel_rfl
noncomputable abbrev c_impl_IsWord : Code := (Tryd.f78.body).getD .skip
noncomputable abbrev nm_impl_IsWord : List Bool := namedOf Tryd.f78
theorem hb_impl_IsWord : HasBody Tryd.prog n_impl_IsWord := ⟨Tryd.f78, _, Tryd.func78, rfl, by decide⟩
abbrev hm0_impl_IsWord : List Bool := [true, true, false, true, false, true, true, true, true, false, false, false, false, false, false, false, true, true, true, true, true, true, true, true]
abbrev xm0_impl_IsWord : List Bool := [true, true, true, true, true, true, true, true, false, false, false, false, false, false, false, false, true, true, true, true, true, true, true, true]
noncomputable def lb0_impl_IsWord (env : Nat → Contract) : TM → Heap → Option Res := fun tm h => denC Tryd.prog env nm_impl_IsWord (atrlrll c_impl_IsWord) Res tm h fun e tm h => some (e, tm, h)
noncomputable def lk0_impl_IsWord (env : Nat → Contract) : AX → TM → Heap → Option (AV × Heap) := (kBlock 0 (kSeq Tryd.prog env nm_impl_IsWord (atrr c_impl_IsWord) _ (kRet Tryd.prog Tryd.f78.results.toList)))
theorem e_impl_IsWord (env : Nat → Contract) (x0 : AV) (h : Heap) : denFn Tryd.prog env n_impl_IsWord [x0] h = obind2 (aConvBytes x0 h) fun v1 h2 => obind (aLenK .slice v1) fun v3 => obind (loopP hm0_impl_IsWord xm0_impl_IsWord (lb0_impl_IsWord env) [x0, und, .top, und, .top, x0, v1, v3, (iv 0), .top, .top, .top, .top, .top, .top, .top, und, und, und, und, und, und, und, und] h2) fun r => lk0_impl_IsWord env r.1 r.2.1 r.2.2 := by kernel_rfl
theorem e_lb0_impl_IsWord (env : Nat → Contract) (y0 y1 y3 y5 y6 y7 y8 y16 y17 y18 y19 y20 y21 y22 y23 : AV) (h : Heap) : lb0_impl_IsWord env [y0, y1, .top, y3, .top, y5, y6, y7, y8, .top, .top, .top, .top, .top, .top, .top, y16, y17, y18, y19, y20, y21, y22, y23] h = obind (aBin .lss y8 y7) fun v4 => condB v4 (obind (aIndexAddr 1 y6 y8 h) fun v5 => obind (aLoad false 1 v5 h) fun v6 => obind2 (aCall (env n_impl_isLetter) [v6] h) fun v7 h8 => obind (aUn .not v7) fun v9 => condB v9 (some (.ret, [y0, y1, (bv false), y3, v6, y5, y6, y7, y8, v4, v5, v6, v6, v7, v9, .top, y16, y17, y18, y19, y20, y21, y22, y23], h8)) (obind (aBin .add y8 (iv 1)) fun v10 => some (.normal, [y0, y1, .top, y3, v6, y5, y6, y7, v10, v4, v5, v6, v6, v7, v9, v10, y16, y17, y18, y19, y20, y21, y22, y23], h8))) (some (.exit 0, [y0, y1, .top, y3, .top, y5, y6, y7, y8, v4, .top, .top, .top, .top, .top, .top, y16, y17, y18, y19, y20, y21, y22, y23], h)) := by kernel_rfl
theorem e_lk0x0_impl_IsWord (env : Nat → Contract) (z0 z1 z2 z3 z4 z5 z6 z7 z16 z17 z18 z19 z20 z21 z22 z23 : AV) (h : Heap) : lk0_impl_IsWord env (.exit 0) [z0, z1, z2, z3, z4, z5, z6, z7, .top, .top, .top, .top, .top, .top, .top, .top, z16, z17, z18, z19, z20, z21, z22, z23] h = obind (aLenK .str z0) fun v11 => obind (aBin .geq v11 (iv 1)) fun v12 => obind2 (guardB v12 true (obind (aLenK .str z0) fun v13 => obind (aBin .leq v13 (iv 10)) fun v14 => some (v14, h)) (some (und, h))) fun v15 h16 => obind (aPick v12 v15 (bv false)) fun v17 => some (v17, h16) := by kernel_rfl
theorem e_lk0r_impl_IsWord (env : Nat → Contract) (z0 z1 z2 z3 z4 z5 z6 z7 z16 z17 z18 z19 z20 z21 z22 z23 : AV) (h : Heap) : lk0_impl_IsWord env .ret [z0, z1, z2, z3, z4, z5, z6, z7, .top, .top, .top, .top, .top, .top, .top, .top, z16, z17, z18, z19, z20, z21, z22, z23] h = some (z2, h) := by kernel_rfl
noncomputable abbrev c_cmp_Or_int : Code := (Tryd.f79.body).getD .skip
noncomputable abbrev nm_cmp_Or_int : List Bool := namedOf Tryd.f79
theorem hb_cmp_Or_int : HasBody Tryd.prog n_cmp_Or_int := ⟨Tryd.f79, _, Tryd.func79, rfl, by decide⟩
abbrev hm0_cmp_Or_int : List Bool := [true, true, false, true, true, false, true, true, true, false, false, false, false, false, false, false, false, true]
abbrev xm0_cmp_Or_int : List Bool := [true, true, true, true, true, true, true, true, false, false, false, false, false, false, false, false, false, true]
noncomputable def lb0_cmp_Or_int (env : Nat → Contract) : TM → Heap → Option Res := fun tm h => denC Tryd.prog env nm_cmp_Or_int (atrrlrll c_cmp_Or_int) Res tm h fun e tm h => some (e, tm, h)
noncomputable def lk0_cmp_Or_int (env : Nat → Contract) : AX → TM → Heap → Option (AV × Heap) := (kBlock 0 (kSeq Tryd.prog env nm_cmp_Or_int (atrrr c_cmp_Or_int) _ (kRet Tryd.prog Tryd.f79.results.toList)))
theorem e_cmp_Or_int (env : Nat → Contract) (x0 : AV) (h : Heap) : denFn Tryd.prog env n_cmp_Or_int [x0] h = obind (aLenK .slice x0) fun v1 => obind (loopP hm0_cmp_Or_int xm0_cmp_Or_int (lb0_cmp_Or_int env) [x0, und, .top, (iv 0), und, .top, x0, v1, (iv 0), .top, .top, .top, .top, .top, .top, .top, .top, und] h) fun r => lk0_cmp_Or_int env r.1 r.2.1 r.2.2 := by kernel_rfl
theorem e_lb0_cmp_Or_int (env : Nat → Contract) (y0 y1 y3 y4 y6 y7 y8 y17 : AV) (h : Heap) : lb0_cmp_Or_int env [y0, y1, .top, y3, y4, .top, y6, y7, y8, .top, .top, .top, .top, .top, .top, .top, .top, y17] h = obind (aBin .lss y8 y7) fun v2 => condB v2 (obind (aIndexAddr 1 y6 y8 h) fun v3 => obind (aLoad false 1 v3 h) fun v4 => obind (aCmp .neq .plain v4 y3) fun v5 => condB v5 (some (.ret, [y0, y1, v4, y3, y4, v4, y6, y7, y8, v2, v3, v4, v4, y3, v5, v4, .top, y17], h)) (obind (aBin .add y8 (iv 1)) fun v6 => some (.normal, [y0, y1, .top, y3, y4, v4, y6, y7, v6, v2, v3, v4, v4, y3, v5, .top, v6, y17], h))) (some (.exit 0, [y0, y1, .top, y3, y4, .top, y6, y7, y8, v2, .top, .top, .top, .top, .top, .top, .top, y17], h)) := by kernel_rfl
theorem e_lk0x0_cmp_Or_int (env : Nat → Contract) (z0 z1 z2 z3 z4 z5 z6 z7 z17 : AV) (h : Heap) : lk0_cmp_Or_int env (.exit 0) [z0, z1, z2, z3, z4, z5, z6, z7, .top, .top, .top, .top, .top, .top, .top, .top, .top, z17] h = some (z3, h) := by kernel_rfl
theorem e_lk0r_cmp_Or_int (env : Nat → Contract) (z0 z1 z2 z3 z4 z5 z6 z7 z17 : AV) (h : Heap) : lk0_cmp_Or_int env .ret [z0, z1, z2, z3, z4, z5, z6, z7, .top, .top, .top, .top, .top, .top, .top, .top, .top, z17] h = some (z2, h) := by kernel_rfl
theorem hb_cmp_Compare_string : HasBody Tryd.prog n_cmp_Compare_string := ⟨Tryd.f80, _, Tryd.func80, rfl, by decide⟩
theorem e_cmp_Compare_string (env : Nat → Contract) (x0 x1 : AV) (h : Heap) : denFn Tryd.prog env n_cmp_Compare_string [x0, x1] h = obind2 (aCall (env n_cmp_isNaN_string) [x0] h) fun v1 h2 => obind2 (aCall (env n_cmp_isNaN_string) [x1] h2) fun v3 h4 => condB v1 (condB v3 (some ((iv 0), h4)) (some ((iv (-1)), h4))) (condB v3 (some ((iv 1), h4)) (obind (aBin .lss x0 x1) fun v5 => condB v5 (some ((iv (-1)), h4)) (obind (aBin .gtr x0 x1) fun v6 => condB v6 (some ((iv 1), h4)) (some ((iv 0), h4))))) := by kernel_rfl
theorem hb_impl_within : HasBody Tryd.prog n_impl_within := ⟨Tryd.f81, _, Tryd.func81, rfl, by decide⟩
theorem e_impl_within (env : Nat → Contract) (x0 x1 x2 : AV) (h : Heap) : denFn Tryd.prog env n_impl_within [x0, x1, x2] h = obind (aBin .geq x0 x1) fun v1 => obind2 (guardB v1 true (obind (aBin .leq x0 x2) fun v2 => some (v2, h)) (some (und, h))) fun v3 h4 => obind (aPick v1 v3 (bv false)) fun v5 => some (v5, h4) := by kernel_rfl
noncomputable abbrev c_slices_IndexFunc_impl_Symbol_impl_Symbol : Code := (Tryd.f85.body).getD .skip
noncomputable abbrev nm_slices_IndexFunc_impl_Symbol_impl_Symbol : List Bool := namedOf Tryd.f85
theorem hb_slices_IndexFunc_impl_Symbol_impl_Symbol : HasBody Tryd.prog n_slices_IndexFunc_impl_Symbol_impl_Symbol := ⟨Tryd.f85, _, Tryd.func85, rfl, by decide⟩
abbrev hm0_slices_IndexFunc_impl_Symbol_impl_Symbol : List Bool := [true, true, true, true, false, false, true, true, true, false, false, false, false, false, false, false, false, false, false]
abbrev xm0_slices_IndexFunc_impl_Symbol_impl_Symbol : List Bool := [true, true, true, true, true, true, true, true, false, false, false, false, false, false, false, false, false, false, false]
noncomputable def lb0_slices_IndexFunc_impl_Symbol_impl_Symbol (env : Nat → Contract) : TM → Heap → Option Res := fun tm h => denC Tryd.prog env nm_slices_IndexFunc_impl_Symbol_impl_Symbol (atrlrll c_slices_IndexFunc_impl_Symbol_impl_Symbol) Res tm h fun e tm h => some (e, tm, h)
noncomputable def lk0_slices_IndexFunc_impl_Symbol_impl_Symbol (env : Nat → Contract) : AX → TM → Heap → Option (AV × Heap) := (kBlock 0 (kSeq Tryd.prog env nm_slices_IndexFunc_impl_Symbol_impl_Symbol (atrr c_slices_IndexFunc_impl_Symbol_impl_Symbol) _ (kRet Tryd.prog Tryd.f85.results.toList)))
theorem e_slices_IndexFunc_impl_Symbol_impl_Symbol (env : Nat → Contract) (x0 x1 : AV) (h : Heap) : denFn Tryd.prog env n_slices_IndexFunc_impl_Symbol_impl_Symbol [x0, x1] h = obind (aLenK .slice x0) fun v1 => obind (loopP hm0_slices_IndexFunc_impl_Symbol_impl_Symbol xm0_slices_IndexFunc_impl_Symbol_impl_Symbol (lb0_slices_IndexFunc_impl_Symbol_impl_Symbol env) [x0, x1, und, und, .top, .top, x0, v1, (iv 0), .top, .top, .top, .top, .top, .top, .top, .top, .top, .top] h) fun r => lk0_slices_IndexFunc_impl_Symbol_impl_Symbol env r.1 r.2.1 r.2.2 := by kernel_rfl
theorem e_lb0_slices_IndexFunc_impl_Symbol_impl_Symbol (env : Nat → Contract) (y0 y1 y2 y3 y6 y7 y8 : AV) (h : Heap) : lb0_slices_IndexFunc_impl_Symbol_impl_Symbol env [y0, y1, y2, y3, .top, .top, y6, y7, y8, .top, .top, .top, .top, .top, .top, .top, .top, .top, .top] h = obind (aBin .lss y8 y7) fun v2 => condB v2 (obind (aIndexAddr 5 y0 y8 h) fun v3 => obind (aLoad true 5 v3 h) fun v4 => (match y1 with | .fn g5 c6 => obind2 (aCall (env g5) ([v4] ++ c6) h) fun v7 h8 => condB v7 (some (.ret, [y0, y1, y2, y3, y8, y8, y6, y7, y8, v2, y8, y1, y0, y8, v3, v4, v7, y8, .top], h8)) (obind (aBin .add y8 (iv 1)) fun v9 => some (.normal, [y0, y1, y2, y3, .top, y8, y6, y7, v9, v2, y8, y1, y0, y8, v3, v4, v7, .top, v9], h8)) | _ => none)) (some (.exit 0, [y0, y1, y2, y3, .top, .top, y6, y7, y8, v2, .top, .top, .top, .top, .top, .top, .top, .top, .top], h)) := by kernel_rfl
theorem e_lk0x0_slices_IndexFunc_impl_Symbol_impl_Symbol (env : Nat → Contract) (z0 z1 z2 z3 z4 z5 z6 z7 : AV) (h : Heap) : lk0_slices_IndexFunc_impl_Symbol_impl_Symbol env (.exit 0) [z0, z1, z2, z3, z4, z5, z6, z7, .top, .top, .top, .top, .top, .top, .top, .top, .top, .top, .top] h = some ((iv (-1)), h) := by kernel_rfl
theorem e_lk0r_slices_IndexFunc_impl_Symbol_impl_Symbol (env : Nat → Contract) (z0 z1 z2 z3 z4 z5 z6 z7 : AV) (h : Heap) : lk0_slices_IndexFunc_impl_Symbol_impl_Symbol env .ret [z0, z1, z2, z3, z4, z5, z6, z7, .top, .top, .top, .top, .top, .top, .top, .top, .top, .top, .top] h = some (z4, h) := by kernel_rfl
theorem hb_impl_isLetter : HasBody Tryd.prog n_impl_isLetter := ⟨Tryd.f86, _, Tryd.func86, rfl, by decide⟩
theorem e_impl_isLetter (env : Nat → Contract) (x0 : AV) (h : Heap) : denFn Tryd.prog env n_impl_isLetter [x0] h = obind (aBin .geq x0 (.sc (.int .u8 97))) fun v1 => obind2 (guardB v1 true (obind (aBin .leq x0 (.sc (.int .u8 122))) fun v2 => some (v2, h)) (some (und, h))) fun v3 h4 => obind (aPick v1 v3 (bv false)) fun v5 => some (v5, h4) := by kernel_rfl
theorem hb_strings_Contains : HasBody Tryd.prog n_strings_Contains := ⟨Tryd.f87, _, Tryd.func87, rfl, by decide⟩
theorem e_strings_Contains (env : Nat → Contract) (x0 x1 : AV) (h : Heap) : denFn Tryd.prog env n_strings_Contains [x0, x1] h = obind2 (aCall (env n_strings_Index) [x0, x1] h) fun v1 h2 => obind (aBin .geq v1 (iv 0)) fun v3 => some (v3, h2) := by kernel_rfl
theorem hb_spec_l01Digit : HasBody Tryd.prog n_spec_l01Digit := ⟨Tryd.f88, _, Tryd.func88, rfl, by decide⟩
theorem e_spec_l01Digit (env : Nat → Contract) (x0 : AV) (h : Heap) : denFn Tryd.prog env n_spec_l01Digit [x0] h = obind (aBin .geq x0 (.sc (.int .u8 48))) fun v1 => obind2 (guardB v1 true (obind (aBin .leq x0 (.sc (.int .u8 57))) fun v2 => some (v2, h)) (some (und, h))) fun v3 h4 => obind (aPick v1 v3 (bv false)) fun v5 => some (v5, h4) := by kernel_rfl
theorem hb_internal_stringslite_HasSuffix : HasBody Tryd.prog n_internal_stringslite_HasSuffix := ⟨Tryd.f89, _, Tryd.func89, rfl, by decide⟩
theorem e_internal_stringslite_HasSuffix (env : Nat → Contract) (x0 x1 : AV) (h : Heap) : denFn Tryd.prog env n_internal_stringslite_HasSuffix [x0, x1] h = obind (aLenK .str x0) fun v1 => obind (aLenK .str x1) fun v2 => obind (aBin .geq v1 v2) fun v3 => obind2 (guardB v3 true (obind (aLenK .str x0) fun v4 => obind (aLenK .str x1) fun v5 => obind (aBin .sub v4 v5) fun v6 => obind (aSliceStr x0 (some v6) none) fun v7 => obind (aCmp .eql .plain v7 x1) fun v8 => some (v8, h)) (some (und, h))) fun v9 h10 => obind (aPick v3 v9 (bv false)) fun v11 => some (v11, h10) := by kernel_rfl
theorem hb_internal_stringslite_TrimSuffix : HasBody Tryd.prog n_internal_stringslite_TrimSuffix := ⟨Tryd.f91, _, Tryd.func91, rfl, by decide⟩
theorem e_internal_stringslite_TrimSuffix (env : Nat → Contract) (x0 x1 : AV) (h : Heap) : denFn Tryd.prog env n_internal_stringslite_TrimSuffix [x0, x1] h = obind2 (aCall (env n_internal_stringslite_HasSuffix) [x0, x1] h) fun v1 h2 => condB v1 (obind (aLenK .str x0) fun v3 => obind (aLenK .str x1) fun v4 => obind (aBin .sub v3 v4) fun v5 => obind (aSliceStr x0 none (some v5)) fun v6 => some (v6, h2)) (some (x0, h2)) := by kernel_rfl
theorem hb_internal_stringslite_HasPrefix : HasBody Tryd.prog n_internal_stringslite_HasPrefix := ⟨Tryd.f94, _, Tryd.func94, rfl, by decide⟩
theorem e_internal_stringslite_HasPrefix (env : Nat → Contract) (x0 x1 : AV) (h : Heap) : denFn Tryd.prog env n_internal_stringslite_HasPrefix [x0, x1] h = obind (aLenK .str x0) fun v1 => obind (aLenK .str x1) fun v2 => obind (aBin .geq v1 v2) fun v3 => obind2 (guardB v3 true (obind (aLenK .str x1) fun v4 => obind (aSliceStr x0 none (some v4)) fun v5 => obind (aCmp .eql .plain v5 x1) fun v6 => some (v6, h)) (some (und, h))) fun v7 h8 => obind (aPick v3 v7 (bv false)) fun v9 => some (v9, h8) := by kernel_rfl
theorem hb_spec_l01Small : HasBody Tryd.prog n_spec_l01Small := ⟨Tryd.f95, _, Tryd.func95, rfl, by decide⟩
theorem e_spec_l01Small (env : Nat → Contract) (x0 : AV) (h : Heap) : denFn Tryd.prog env n_spec_l01Small [x0] h = obind (aBin .geq x0 (.sc (.int .u8 97))) fun v1 => obind2 (guardB v1 true (obind (aBin .leq x0 (.sc (.int .u8 122))) fun v2 => some (v2, h)) (some (und, h))) fun v3 h4 => obind (aPick v1 v3 (bv false)) fun v5 => some (v5, h4) := by kernel_rfl
theorem hb_cmp_isNaN_string : HasBody Tryd.prog n_cmp_isNaN_string := ⟨Tryd.f96, _, Tryd.func96, rfl, by decide⟩
theorem e_cmp_isNaN_string (env : Nat → Contract) (x0 : AV) (h : Heap) : denFn Tryd.prog env n_cmp_isNaN_string [x0] h = obind (aCmp .neq .plain x0 x0) fun v1 => some (v1, h) := by kernel_rfl
theorem hb_strings_Index : HasBody Tryd.prog n_strings_Index := ⟨Tryd.f101, _, Tryd.func101, rfl, by decide⟩
theorem e_strings_Index (env : Nat → Contract) (x0 x1 : AV) (h : Heap) : denFn Tryd.prog env n_strings_Index [x0, x1] h = obind2 (aCall (env n_internal_stringslite_Index) [x0, x1] h) fun v1 h2 => some (v1, h2) := by kernel_rfl
noncomputable abbrev c_internal_stringslite_Index : Code := (Tryd.f114.body).getD .skip
noncomputable abbrev nm_internal_stringslite_Index : List Bool := namedOf Tryd.f114
theorem hb_internal_stringslite_Index : HasBody Tryd.prog n_internal_stringslite_Index := ⟨Tryd.f114, _, Tryd.func114, rfl, by decide⟩
abbrev hm0_internal_stringslite_Index : List Bool := (true :: true :: true :: true :: false :: true :: true :: true :: true :: true :: true :: false :: false :: false :: true :: true :: true :: true :: true :: true :: true :: true :: true :: true :: true :: true :: true :: true :: true :: true :: true :: true :: true :: true :: true :: true :: true :: true :: true :: true :: true :: true :: true :: true :: true :: true :: true :: true :: true :: true :: true :: true :: true :: true :: true :: true :: true :: false :: false :: false :: false :: false :: false :: false :: false :: false :: false :: false :: false :: false :: false :: false :: false :: false :: false :: false :: false :: false :: false :: false :: false :: false :: false :: false :: false :: false :: false :: false :: false :: false :: false :: false :: false :: false :: false :: false :: false :: false :: false :: false :: false :: false :: false :: false :: false :: false :: false :: false :: false :: false :: false :: false :: false :: false :: false :: false :: false :: false :: false :: false :: false :: false :: false :: false :: false :: false :: false :: false :: false :: false :: false :: false :: false :: false :: false :: false :: false :: false :: false :: false :: false :: false :: false :: [])
abbrev xm0_internal_stringslite_Index : List Bool := (true :: true :: true :: true :: true :: true :: true :: true :: true :: true :: true :: true :: true :: true :: true :: true :: true :: true :: true :: true :: true :: true :: true :: true :: true :: true :: true :: true :: true :: true :: true :: true :: true :: true :: true :: true :: true :: true :: true :: true :: true :: true :: true :: true :: true :: true :: true :: true :: true :: true :: true :: true :: true :: true :: true :: true :: true :: false :: false :: false :: false :: false :: false :: false :: false :: false :: false :: false :: false :: false :: false :: false :: false :: false :: false :: false :: false :: false :: false :: false :: false :: false :: false :: false :: false :: false :: false :: false :: false :: false :: false :: false :: false :: false :: false :: false :: false :: false :: false :: false :: false :: false :: false :: false :: false :: false :: false :: false :: false :: false :: false :: false :: false :: false :: false :: false :: false :: false :: false :: false :: false :: false :: false :: false :: false :: false :: false :: false :: false :: false :: false :: false :: false :: false :: false :: false :: false :: false :: false :: false :: false :: false :: false :: [])
noncomputable def lb0_internal_stringslite_Index (env : Nat → Contract) : TM → Heap → Option Res := fun tm h => denC Tryd.prog env nm_internal_stringslite_Index (atrrrrrrrrlll c_internal_stringslite_Index) Res tm h fun e tm h => some (e, tm, h)
noncomputable def lk0_internal_stringslite_Index (env : Nat → Contract) : AX → TM → Heap → Option (AV × Heap) := (kBlock 1 (kSeq Tryd.prog env nm_internal_stringslite_Index (atrrrrrrrrr c_internal_stringslite_Index) _ (kRet Tryd.prog Tryd.f114.results.toList)))
theorem e_internal_stringslite_Index (env : Nat → Contract) (x0 x1 : AV) (h : Heap) : denFn Tryd.prog env n_internal_stringslite_Index [x0, x1] h = obind (aLenK .str x1) fun v1 => obind (aCmp .eql .plain v1 (iv 0)) fun v2 => obind2 (guardB v2 false (obind (aCmp .eql .plain x1 x0) fun v3 => some (v3, h)) (some (und, h))) fun v4 h5 => obind (aPick v2 (bv true) v4) fun v6 => condB v6 (some ((iv 0), h5)) (obind (aCmp .eql .plain v1 (iv 1)) fun v7 => condB v7 (obind (aIndexStr x1 (iv 0)) fun v8 => obind2 (aCall (env n_internal_stringslite_IndexByte) [x0, v8] h5) fun v9 h10 => some (v9, h10)) (obind (aLenK .str x0) fun v11 => obind (aBin .geq v1 v11) fun v12 => condB v12 (some ((iv (-1)), h5)) (obind (aLoad false 1 .top h5) fun v13 => obind (aBin .leq v1 v13) fun v14 => obind2 (guardB v14 true (obind (aLenK .str x0) fun v15 => obind (aBin .leq v15 (iv 64)) fun v16 => some (v16, h5)) (some (und, h5))) fun v17 h18 => obind (aPick v14 v17 (bv false)) fun v19 => condB v19 (obind2 (aCall (env n_internal_bytealg_IndexString) [x0, x1] h18) fun v20 h21 => some (v20, h21)) (obind (aIndexStr x1 (iv 0)) fun v22 => obind (aIndexStr x1 (iv 1)) fun v23 => obind (aLenK .str x0) fun v24 => obind (aBin .sub v24 v1) fun v25 => obind (aBin .add v25 (iv 1)) fun v26 => obind (loopP hm0_internal_stringslite_Index xm0_internal_stringslite_Index (lb0_internal_stringslite_Index env) (x0 :: x1 :: und :: und :: .top :: v1 :: v22 :: v23 :: (iv 0) :: v26 :: (iv 0) :: .top :: .top :: .top :: x1 :: v1 :: v6 :: v1 :: v2 :: v2 :: .top :: .top :: v4 :: v6 :: v7 :: v1 :: v7 :: und :: und :: und :: und :: v12 :: v1 :: x0 :: v11 :: v12 :: v19 :: v1 :: v13 :: v14 :: v14 :: .top :: .top :: v17 :: v19 :: und :: und :: und :: x1 :: v22 :: x1 :: v23 :: x0 :: v24 :: v1 :: v25 :: v26 :: .top :: .top :: .top :: .top :: .top :: .top :: .top :: .top :: .top :: .top :: .top :: .top :: .top :: .top :: .top :: .top :: .top :: .top :: .top :: .top :: .top :: .top :: .top :: .top :: .top :: .top :: .top :: .top :: .top :: .top :: .top :: .top :: .top :: .top :: .top :: .top :: .top :: .top :: .top :: .top :: .top :: .top :: .top :: .top :: .top :: .top :: .top :: .top :: .top :: .top :: .top :: .top :: .top :: .top :: .top :: .top :: .top :: .top :: .top :: .top :: .top :: .top :: .top :: .top :: .top :: .top :: .top :: .top :: .top :: .top :: .top :: .top :: .top :: .top :: .top :: .top :: .top :: .top :: .top :: .top :: .top :: .top :: .top :: .top :: .top :: .top :: []) h18) fun r => lk0_internal_stringslite_Index env r.1 r.2.1 r.2.2)))) := by kernel_rfl
theorem e_lb0_internal_stringslite_Index (env : Nat → Contract) (y0 y1 y2 y3 y5 y6 y7 y8 y9 y10 y14 y15 y16 y17 y18 y19 y20 y21 y22 y23 y24 y25 y26 y27 y28 y29 y30 y31 y32 y33 y34 y35 y36 y37 y38 y39 y40 y41 y42 y43 y44 y45 y46 y47 y48 y49 y50 y51 y52 y53 y54 y55 y56 : AV) (h : Heap) : lb0_internal_stringslite_Index env (y0 :: y1 :: y2 :: y3 :: .top :: y5 :: y6 :: y7 :: y8 :: y9 :: y10 :: .top :: .top :: .top :: y14 :: y15 :: y16 :: y17 :: y18 :: y19 :: y20 :: y21 :: y22 :: y23 :: y24 :: y25 :: y26 :: y27 :: y28 :: y29 :: y30 :: y31 :: y32 :: y33 :: y34 :: y35 :: y36 :: y37 :: y38 :: y39 :: y40 :: y41 :: y42 :: y43 :: y44 :: y45 :: y46 :: y47 :: y48 :: y49 :: y50 :: y51 :: y52 :: y53 :: y54 :: y55 :: y56 :: .top :: .top :: .top :: .top :: .top :: .top :: .top :: .top :: .top :: .top :: .top :: .top :: .top :: .top :: .top :: .top :: .top :: .top :: .top :: .top :: .top :: .top :: .top :: .top :: .top :: .top :: .top :: .top :: .top :: .top :: .top :: .top :: .top :: .top :: .top :: .top :: .top :: .top :: .top :: .top :: .top :: .top :: .top :: .top :: .top :: .top :: .top :: .top :: .top :: .top :: .top :: .top :: .top :: .top :: .top :: .top :: .top :: .top :: .top :: .top :: .top :: .top :: .top :: .top :: .top :: .top :: .top :: .top :: .top :: .top :: .top :: .top :: .top :: .top :: .top :: .top :: .top :: .top :: .top :: .top :: .top :: .top :: .top :: .top :: .top :: .top :: []) h = obind (aBin .lss y8 y9) fun v27 => condB v27 (obind (aIndexStr y0 y8) fun v28 => obind (aCmp .neq .plain v28 y6) fun v29 => condB v29 (obind (aBin .add y8 (iv 1)) fun v30 => obind (aSliceStr y0 (some v30) (some y9)) fun v31 => obind2 (aCall (env n_internal_stringslite_IndexByte) [v31, y6] h) fun v32 h33 => obind (aBin .lss v32 (iv 0)) fun v34 => condB v34 (some (.ret, (y0 :: y1 :: y2 :: y3 :: (iv (-1)) :: y5 :: y6 :: y7 :: y8 :: y9 :: y10 :: v32 :: .top :: .top :: y14 :: y15 :: y16 :: y17 :: y18 :: y19 :: y20 :: y21 :: y22 :: y23 :: y24 :: y25 :: y26 :: y27 :: y28 :: y29 :: y30 :: y31 :: y32 :: y33 :: y34 :: y35 :: y36 :: y37 :: y38 :: y39 :: y40 :: y41 :: y42 :: y43 :: y44 :: y45 :: y46 :: y47 :: y48 :: y49 :: y50 :: y51 :: y52 :: y53 :: y54 :: y55 :: y56 :: y8 :: y9 :: v27 :: y0 :: y8 :: v28 :: y6 :: v29 :: y0 :: y8 :: v30 :: y9 :: v31 :: y6 :: v32 :: v32 :: v34 :: .top :: .top :: .top :: .top :: .top :: .top :: .top :: .top :: .top :: .top :: .top :: .top :: .top :: .top :: .top :: .top :: .top :: .top :: .top :: .top :: .top :: .top :: .top :: .top :: .top :: .top :: .top :: .top :: .top :: .top :: .top :: .top :: .top :: .top :: .top :: .top :: .top :: .top :: .top :: .top :: .top :: .top :: .top :: .top :: .top :: .top :: .top :: .top :: .top :: .top :: .top :: .top :: .top :: .top :: .top :: .top :: .top :: .top :: .top :: .top :: .top :: .top :: .top :: .top :: .top :: .top :: .top :: .top :: .top :: []), h33)) (obind (aBin .add v32 (iv 1)) fun v35 => obind (aBin .add y8 v35) fun v36 => obind (aBin .add v36 (iv 1)) fun v37 => obind (aIndexStr y0 v37) fun v38 => obind (aCmp .eql .plain v38 y7) fun v39 => obind2 (guardB v39 true (obind (aBin .add v36 y5) fun v40 => obind (aSliceStr y0 (some v36) (some v40)) fun v41 => obind (aCmp .eql .plain v41 y1) fun v42 => some (v42, h33)) (some (und, h33))) fun v43 h44 => obind (aPick v39 v43 (bv false)) fun v45 => condB v45 (some (.ret, (y0 :: y1 :: y2 :: y3 :: v36 :: y5 :: y6 :: y7 :: v36 :: y9 :: y10 :: v32 :: .top :: .top :: y14 :: y15 :: y16 :: y17 :: y18 :: y19 :: y20 :: y21 :: y22 :: y23 :: y24 :: y25 :: y26 :: y27 :: y28 :: y29 :: y30 :: y31 :: y32 :: y33 :: y34 :: y35 :: y36 :: y37 :: y38 :: y39 :: y40 :: y41 :: y42 :: y43 :: y44 :: y45 :: y46 :: y47 :: y48 :: y49 :: y50 :: y51 :: y52 :: y53 :: y54 :: y55 :: y56 :: y8 :: y9 :: v27 :: y0 :: y8 :: v28 :: y6 :: v29 :: y0 :: y8 :: v30 :: y9 :: v31 :: y6 :: v32 :: v32 :: v34 :: y8 :: v32 :: v35 :: v36 :: y0 :: v36 :: v37 :: v38 :: y7 :: v39 :: v39 :: .top :: .top :: .top :: .top :: .top :: .top :: .top :: v43 :: v45 :: v36 :: .top :: .top :: .top :: .top :: .top :: .top :: .top :: .top :: .top :: .top :: .top :: .top :: .top :: .top :: .top :: .top :: .top :: .top :: .top :: .top :: .top :: .top :: .top :: .top :: .top :: .top :: .top :: .top :: .top :: .top :: .top :: .top :: .top :: .top :: .top :: .top :: .top :: .top :: .top :: .top :: .top :: .top :: .top :: .top :: .top :: .top :: .top :: .top :: []), h44)) (obind (aBin .add v36 (iv 1)) fun v46 => obind (aBin .add y10 (iv 1)) fun v47 => obind (aLoad false 1 .top h44) fun v48 => obind (aBin .leq y5 v48) fun v49 => obind2 (guardB v49 true (obind2 (aCall (env n_internal_bytealg_Cutover) [v46] h44) fun v50 h51 => obind (aBin .gtr v47 v50) fun v52 => some (v52, h51)) (some (und, h44))) fun v53 h54 => obind (aPick v49 v53 (bv false)) fun v55 => condB v55 (obind (aSliceStr y0 (some v46) none) fun v56 => obind2 (aCall (env n_internal_bytealg_IndexString) [v56, y1] h54) fun v57 h58 => obind (aBin .geq v57 (iv 0)) fun v59 => condB v59 (obind (aBin .add v57 v46) fun v60 => some (.ret, (y0 :: y1 :: y2 :: y3 :: v60 :: y5 :: y6 :: y7 :: v46 :: y9 :: v47 :: v32 :: v57 :: .top :: y14 :: y15 :: y16 :: y17 :: y18 :: y19 :: y20 :: y21 :: y22 :: y23 :: y24 :: y25 :: y26 :: y27 :: y28 :: y29 :: y30 :: y31 :: y32 :: y33 :: y34 :: y35 :: y36 :: y37 :: y38 :: y39 :: y40 :: y41 :: y42 :: y43 :: y44 :: y45 :: y46 :: y47 :: y48 :: y49 :: y50 :: y51 :: y52 :: y53 :: y54 :: y55 :: y56 :: y8 :: y9 :: v27 :: y0 :: y8 :: v28 :: y6 :: v29 :: y0 :: y8 :: v30 :: y9 :: v31 :: y6 :: v32 :: v32 :: v34 :: y8 :: v32 :: v35 :: v36 :: y0 :: v36 :: v37 :: v38 :: y7 :: v39 :: v39 :: .top :: .top :: .top :: .top :: .top :: .top :: .top :: v43 :: v45 :: .top :: v36 :: v46 :: y10 :: v47 :: y5 :: v48 :: v49 :: v49 :: .top :: .top :: .top :: v53 :: v55 :: y0 :: v46 :: v56 :: y1 :: v57 :: v57 :: v59 :: v57 :: v46 :: v60 :: .top :: .top :: .top :: .top :: .top :: .top :: .top :: .top :: .top :: .top :: .top :: .top :: .top :: .top :: .top :: .top :: .top :: .top :: .top :: .top :: .top :: .top :: .top :: .top :: .top :: []), h58)) (some (.ret, (y0 :: y1 :: y2 :: y3 :: (iv (-1)) :: y5 :: y6 :: y7 :: v46 :: y9 :: v47 :: v32 :: v57 :: .top :: y14 :: y15 :: y16 :: y17 :: y18 :: y19 :: y20 :: y21 :: y22 :: y23 :: y24 :: y25 :: y26 :: y27 :: y28 :: y29 :: y30 :: y31 :: y32 :: y33 :: y34 :: y35 :: y36 :: y37 :: y38 :: y39 :: y40 :: y41 :: y42 :: y43 :: y44 :: y45 :: y46 :: y47 :: y48 :: y49 :: y50 :: y51 :: y52 :: y53 :: y54 :: y55 :: y56 :: y8 :: y9 :: v27 :: y0 :: y8 :: v28 :: y6 :: v29 :: y0 :: y8 :: v30 :: y9 :: v31 :: y6 :: v32 :: v32 :: v34 :: y8 :: v32 :: v35 :: v36 :: y0 :: v36 :: v37 :: v38 :: y7 :: v39 :: v39 :: .top :: .top :: .top :: .top :: .top :: .top :: .top :: v43 :: v45 :: .top :: v36 :: v46 :: y10 :: v47 :: y5 :: v48 :: v49 :: v49 :: .top :: .top :: .top :: v53 :: v55 :: y0 :: v46 :: v56 :: y1 :: v57 :: v57 :: v59 :: .top :: .top :: .top :: .top :: .top :: .top :: .top :: .top :: .top :: .top :: .top :: .top :: .top :: .top :: .top :: .top :: .top :: .top :: .top :: .top :: .top :: .top :: .top :: .top :: .top :: .top :: .top :: .top :: []), h58))) (obind (aLoad false 1 .top h54) fun v61 => obind (aBin .gtr y5 v61) fun v62 => obind2 (guardB v62 true (obind (aBin .shr v46 (.sc (.int .u64 4))) fun v63 => obind (aBin .add (iv 4) v63) fun v64 => obind (aBin .geq v47 v64) fun v65 => some (v65, h54)) (some (und, h54))) fun v66 h67 => obind (aPick v62 v66 (bv false)) fun v68 => obind2 (guardB v68 true (obind (aBin .lss v46 y9) fun v69 => some (v69, h67)) (some (und, h67))) fun v70 h71 => obind (aPick v68 v70 (bv false)) fun v72 => condB v72 (obind (aSliceStr y0 (some v46) none) fun v73 => obind2 (aCall (env n_internal_bytealg_IndexRabinKarp_string) [v73, y1] h71) fun v74 h75 => obind (aBin .lss v74 (iv 0)) fun v76 => condB v76 (some (.ret, (y0 :: y1 :: y2 :: y3 :: (iv (-1)) :: y5 :: y6 :: y7 :: v46 :: y9 :: v47 :: v32 :: .top :: v74 :: y14 :: y15 :: y16 :: y17 :: y18 :: y19 :: y20 :: y21 :: y22 :: y23 :: y24 :: y25 :: y26 :: y27 :: y28 :: y29 :: y30 :: y31 :: y32 :: y33 :: y34 :: y35 :: y36 :: y37 :: y38 :: y39 :: y40 :: y41 :: y42 :: y43 :: y44 :: y45 :: y46 :: y47 :: y48 :: y49 :: y50 :: y51 :: y52 :: y53 :: y54 :: y55 :: y56 :: y8 :: y9 :: v27 :: y0 :: y8 :: v28 :: y6 :: v29 :: y0 :: y8 :: v30 :: y9 :: v31 :: y6 :: v32 :: v32 :: v34 :: y8 :: v32 :: v35 :: v36 :: y0 :: v36 :: v37 :: v38 :: y7 :: v39 :: v39 :: .top :: .top :: .top :: .top :: .top :: .top :: .top :: v43 :: v45 :: .top :: v36 :: v46 :: y10 :: v47 :: y5 :: v48 :: v49 :: v49 :: .top :: .top :: .top :: v53 :: v55 :: .top :: .top :: .top :: .top :: .top :: .top :: .top :: .top :: .top :: .top :: y5 :: v61 :: v62 :: v62 :: .top :: .top :: .top :: .top :: v66 :: v68 :: v68 :: .top :: .top :: v70 :: v72 :: y0 :: v46 :: v73 :: y1 :: v74 :: v74 :: v76 :: .top :: .top :: .top :: []), h75)) (obind (aBin .add v46 v74) fun v77 => some (.ret, (y0 :: y1 :: y2 :: y3 :: v77 :: y5 :: y6 :: y7 :: v46 :: y9 :: v47 :: v32 :: .top :: v74 :: y14 :: y15 :: y16 :: y17 :: y18 :: y19 :: y20 :: y21 :: y22 :: y23 :: y24 :: y25 :: y26 :: y27 :: y28 :: y29 :: y30 :: y31 :: y32 :: y33 :: y34 :: y35 :: y36 :: y37 :: y38 :: y39 :: y40 :: y41 :: y42 :: y43 :: y44 :: y45 :: y46 :: y47 :: y48 :: y49 :: y50 :: y51 :: y52 :: y53 :: y54 :: y55 :: y56 :: y8 :: y9 :: v27 :: y0 :: y8 :: v28 :: y6 :: v29 :: y0 :: y8 :: v30 :: y9 :: v31 :: y6 :: v32 :: v32 :: v34 :: y8 :: v32 :: v35 :: v36 :: y0 :: v36 :: v37 :: v38 :: y7 :: v39 :: v39 :: .top :: .top :: .top :: .top :: .top :: .top :: .top :: v43 :: v45 :: .top :: v36 :: v46 :: y10 :: v47 :: y5 :: v48 :: v49 :: v49 :: .top :: .top :: .top :: v53 :: v55 :: .top :: .top :: .top :: .top :: .top :: .top :: .top :: .top :: .top :: .top :: y5 :: v61 :: v62 :: v62 :: .top :: .top :: .top :: .top :: v66 :: v68 :: v68 :: .top :: .top :: v70 :: v72 :: y0 :: v46 :: v73 :: y1 :: v74 :: v74 :: v76 :: v46 :: v74 :: v77 :: []), h75))) (some (.normal, (y0 :: y1 :: y2 :: y3 :: .top :: y5 :: y6 :: y7 :: v46 :: y9 :: v47 :: v32 :: .top :: .top :: y14 :: y15 :: y16 :: y17 :: y18 :: y19 :: y20 :: y21 :: y22 :: y23 :: y24 :: y25 :: y26 :: y27 :: y28 :: y29 :: y30 :: y31 :: y32 :: y33 :: y34 :: y35 :: y36 :: y37 :: y38 :: y39 :: y40 :: y41 :: y42 :: y43 :: y44 :: y45 :: y46 :: y47 :: y48 :: y49 :: y50 :: y51 :: y52 :: y53 :: y54 :: y55 :: y56 :: y8 :: y9 :: v27 :: y0 :: y8 :: v28 :: y6 :: v29 :: y0 :: y8 :: v30 :: y9 :: v31 :: y6 :: v32 :: v32 :: v34 :: y8 :: v32 :: v35 :: v36 :: y0 :: v36 :: v37 :: v38 :: y7 :: v39 :: v39 :: .top :: .top :: .top :: .top :: .top :: .top :: .top :: v43 :: v45 :: .top :: v36 :: v46 :: y10 :: v47 :: y5 :: v48 :: v49 :: v49 :: .top :: .top :: .top :: v53 :: v55 :: .top :: .top :: .top :: .top :: .top :: .top :: .top :: .top :: .top :: .top :: y5 :: v61 :: v62 :: v62 :: .top :: .top :: .top :: .top :: v66 :: v68 :: v68 :: .top :: .top :: v70 :: v72 :: .top :: .top :: .top :: .top :: .top :: .top :: .top :: .top :: .top :: .top :: []), h71)))))) (obind (aBin .add y8 (iv 1)) fun v78 => obind (aIndexStr y0 v78) fun v79 => obind (aCmp .eql .plain v79 y7) fun v80 => obind2 (guardB v80 true (obind (aBin .add y8 y5) fun v81 => obind (aSliceStr y0 (some y8) (some v81)) fun v82 => obind (aCmp .eql .plain v82 y1) fun v83 => some (v83, h)) (some (und, h))) fun v84 h85 => obind (aPick v80 v84 (bv false)) fun v86 => condB v86 (some (.ret, (y0 :: y1 :: y2 :: y3 :: y8 :: y5 :: y6 :: y7 :: y8 :: y9 :: y10 :: .top :: .top :: .top :: y14 :: y15 :: y16 :: y17 :: y18 :: y19 :: y20 :: y21 :: y22 :: y23 :: y24 :: y25 :: y26 :: y27 :: y28 :: y29 :: y30 :: y31 :: y32 :: y33 :: y34 :: y35 :: y36 :: y37 :: y38 :: y39 :: y40 :: y41 :: y42 :: y43 :: y44 :: y45 :: y46 :: y47 :: y48 :: y49 :: y50 :: y51 :: y52 :: y53 :: y54 :: y55 :: y56 :: y8 :: y9 :: v27 :: y0 :: y8 :: v28 :: y6 :: v29 :: .top :: .top :: .top :: .top :: .top :: .top :: .top :: .top :: .top :: .top :: .top :: .top :: .top :: y0 :: y8 :: v78 :: v79 :: y7 :: v80 :: v80 :: .top :: .top :: .top :: .top :: .top :: .top :: .top :: v84 :: v86 :: y8 :: .top :: .top :: .top :: .top :: .top :: .top :: .top :: .top :: .top :: .top :: .top :: .top :: .top :: .top :: .top :: .top :: .top :: .top :: .top :: .top :: .top :: .top :: .top :: .top :: .top :: .top :: .top :: .top :: .top :: .top :: .top :: .top :: .top :: .top :: .top :: .top :: .top :: .top :: .top :: .top :: .top :: .top :: .top :: .top :: .top :: .top :: .top :: .top :: []), h85)) (obind (aBin .add y8 (iv 1)) fun v87 => obind (aBin .add y10 (iv 1)) fun v88 => obind (aLoad false 1 .top h85) fun v89 => obind (aBin .leq y5 v89) fun v90 => obind2 (guardB v90 true (obind2 (aCall (env n_internal_bytealg_Cutover) [v87] h85) fun v91 h92 => obind (aBin .gtr v88 v91) fun v93 => some (v93, h92)) (some (und, h85))) fun v94 h95 => obind (aPick v90 v94 (bv false)) fun v96 => condB v96 (obind (aSliceStr y0 (some v87) none) fun v97 => obind2 (aCall (env n_internal_bytealg_IndexString) [v97, y1] h95) fun v98 h99 => obind (aBin .geq v98 (iv 0)) fun v100 => condB v100 (obind (aBin .add v98 v87) fun v101 => some (.ret, (y0 :: y1 :: y2 :: y3 :: v101 :: y5 :: y6 :: y7 :: v87 :: y9 :: v88 :: .top :: v98 :: .top :: y14 :: y15 :: y16 :: y17 :: y18 :: y19 :: y20 :: y21 :: y22 :: y23 :: y24 :: y25 :: y26 :: y27 :: y28 :: y29 :: y30 :: y31 :: y32 :: y33 :: y34 :: y35 :: y36 :: y37 :: y38 :: y39 :: y40 :: y41 :: y42 :: y43 :: y44 :: y45 :: y46 :: y47 :: y48 :: y49 :: y50 :: y51 :: y52 :: y53 :: y54 :: y55 :: y56 :: y8 :: y9 :: v27 :: y0 :: y8 :: v28 :: y6 :: v29 :: .top :: .top :: .top :: .top :: .top :: .top :: .top :: .top :: .top :: .top :: .top :: .top :: .top :: y0 :: y8 :: v78 :: v79 :: y7 :: v80 :: v80 :: .top :: .top :: .top :: .top :: .top :: .top :: .top :: v84 :: v86 :: .top :: y8 :: v87 :: y10 :: v88 :: y5 :: v89 :: v90 :: v90 :: .top :: .top :: .top :: v94 :: v96 :: y0 :: v87 :: v97 :: y1 :: v98 :: v98 :: v100 :: v98 :: v87 :: v101 :: .top :: .top :: .top :: .top :: .top :: .top :: .top :: .top :: .top :: .top :: .top :: .top :: .top :: .top :: .top :: .top :: .top :: .top :: .top :: .top :: .top :: .top :: .top :: .top :: .top :: []), h99)) (some (.ret, (y0 :: y1 :: y2 :: y3 :: (iv (-1)) :: y5 :: y6 :: y7 :: v87 :: y9 :: v88 :: .top :: v98 :: .top :: y14 :: y15 :: y16 :: y17 :: y18 :: y19 :: y20 :: y21 :: y22 :: y23 :: y24 :: y25 :: y26 :: y27 :: y28 :: y29 :: y30 :: y31 :: y32 :: y33 :: y34 :: y35 :: y36 :: y37 :: y38 :: y39 :: y40 :: y41 :: y42 :: y43 :: y44 :: y45 :: y46 :: y47 :: y48 :: y49 :: y50 :: y51 :: y52 :: y53 :: y54 :: y55 :: y56 :: y8 :: y9 :: v27 :: y0 :: y8 :: v28 :: y6 :: v29 :: .top :: .top :: .top :: .top :: .top :: .top :: .top :: .top :: .top :: .top :: .top :: .top :: .top :: y0 :: y8 :: v78 :: v79 :: y7 :: v80 :: v80 :: .top :: .top :: .top :: .top :: .top :: .top :: .top :: v84 :: v86 :: .top :: y8 :: v87 :: y10 :: v88 :: y5 :: v89 :: v90 :: v90 :: .top :: .top :: .top :: v94 :: v96 :: y0 :: v87 :: v97 :: y1 :: v98 :: v98 :: v100 :: .top :: .top :: .top :: .top :: .top :: .top :: .top :: .top :: .top :: .top :: .top :: .top :: .top :: .top :: .top :: .top :: .top :: .top :: .top :: .top :: .top :: .top :: .top :: .top :: .top :: .top :: .top :: .top :: []), h99))) (obind (aLoad false 1 .top h95) fun v102 => obind (aBin .gtr y5 v102) fun v103 => obind2 (guardB v103 true (obind (aBin .shr v87 (.sc (.int .u64 4))) fun v104 => obind (aBin .add (iv 4) v104) fun v105 => obind (aBin .geq v88 v105) fun v106 => some (v106, h95)) (some (und, h95))) fun v107 h108 => obind (aPick v103 v107 (bv false)) fun v109 => obind2 (guardB v109 true (obind (aBin .lss v87 y9) fun v110 => some (v110, h108)) (some (und, h108))) fun v111 h112 => obind (aPick v109 v111 (bv false)) fun v113 => condB v113 (obind (aSliceStr y0 (some v87) none) fun v114 => obind2 (aCall (env n_internal_bytealg_IndexRabinKarp_string) [v114, y1] h112) fun v115 h116 => obind (aBin .lss v115 (iv 0)) fun v117 => condB v117 (some (.ret, (y0 :: y1 :: y2 :: y3 :: (iv (-1)) :: y5 :: y6 :: y7 :: v87 :: y9 :: v88 :: .top :: .top :: v115 :: y14 :: y15 :: y16 :: y17 :: y18 :: y19 :: y20 :: y21 :: y22 :: y23 :: y24 :: y25 :: y26 :: y27 :: y28 :: y29 :: y30 :: y31 :: y32 :: y33 :: y34 :: y35 :: y36 :: y37 :: y38 :: y39 :: y40 :: y41 :: y42 :: y43 :: y44 :: y45 :: y46 :: y47 :: y48 :: y49 :: y50 :: y51 :: y52 :: y53 :: y54 :: y55 :: y56 :: y8 :: y9 :: v27 :: y0 :: y8 :: v28 :: y6 :: v29 :: .top :: .top :: .top :: .top :: .top :: .top :: .top :: .top :: .top :: .top :: .top :: .top :: .top :: y0 :: y8 :: v78 :: v79 :: y7 :: v80 :: v80 :: .top :: .top :: .top :: .top :: .top :: .top :: .top :: v84 :: v86 :: .top :: y8 :: v87 :: y10 :: v88 :: y5 :: v89 :: v90 :: v90 :: .top :: .top :: .top :: v94 :: v96 :: .top :: .top :: .top :: .top :: .top :: .top :: .top :: .top :: .top :: .top :: y5 :: v102 :: v103 :: v103 :: .top :: .top :: .top :: .top :: v107 :: v109 :: v109 :: .top :: .top :: v111 :: v113 :: y0 :: v87 :: v114 :: y1 :: v115 :: v115 :: v117 :: .top :: .top :: .top :: []), h116)) (obind (aBin .add v87 v115) fun v118 => some (.ret, (y0 :: y1 :: y2 :: y3 :: v118 :: y5 :: y6 :: y7 :: v87 :: y9 :: v88 :: .top :: .top :: v115 :: y14 :: y15 :: y16 :: y17 :: y18 :: y19 :: y20 :: y21 :: y22 :: y23 :: y24 :: y25 :: y26 :: y27 :: y28 :: y29 :: y30 :: y31 :: y32 :: y33 :: y34 :: y35 :: y36 :: y37 :: y38 :: y39 :: y40 :: y41 :: y42 :: y43 :: y44 :: y45 :: y46 :: y47 :: y48 :: y49 :: y50 :: y51 :: y52 :: y53 :: y54 :: y55 :: y56 :: y8 :: y9 :: v27 :: y0 :: y8 :: v28 :: y6 :: v29 :: .top :: .top :: .top :: .top :: .top :: .top :: .top :: .top :: .top :: .top :: .top :: .top :: .top :: y0 :: y8 :: v78 :: v79 :: y7 :: v80 :: v80 :: .top :: .top :: .top :: .top :: .top :: .top :: .top :: v84 :: v86 :: .top :: y8 :: v87 :: y10 :: v88 :: y5 :: v89 :: v90 :: v90 :: .top :: .top :: .top :: v94 :: v96 :: .top :: .top :: .top :: .top :: .top :: .top :: .top :: .top :: .top :: .top :: y5 :: v102 :: v103 :: v103 :: .top :: .top :: .top :: .top :: v107 :: v109 :: v109 :: .top :: .top :: v111 :: v113 :: y0 :: v87 :: v114 :: y1 :: v115 :: v115 :: v117 :: v87 :: v115 :: v118 :: []), h116))) (some (.normal, (y0 :: y1 :: y2 :: y3 :: .top :: y5 :: y6 :: y7 :: v87 :: y9 :: v88 :: .top :: .top :: .top :: y14 :: y15 :: y16 :: y17 :: y18 :: y19 :: y20 :: y21 :: y22 :: y23 :: y24 :: y25 :: y26 :: y27 :: y28 :: y29 :: y30 :: y31 :: y32 :: y33 :: y34 :: y35 :: y36 :: y37 :: y38 :: y39 :: y40 :: y41 :: y42 :: y43 :: y44 :: y45 :: y46 :: y47 :: y48 :: y49 :: y50 :: y51 :: y52 :: y53 :: y54 :: y55 :: y56 :: y8 :: y9 :: v27 :: y0 :: y8 :: v28 :: y6 :: v29 :: .top :: .top :: .top :: .top :: .top :: .top :: .top :: .top :: .top :: .top :: .top :: .top :: .top :: y0 :: y8 :: v78 :: v79 :: y7 :: v80 :: v80 :: .top :: .top :: .top :: .top :: .top :: .top :: .top :: v84 :: v86 :: .top :: y8 :: v87 :: y10 :: v88 :: y5 :: v89 :: v90 :: v90 :: .top :: .top :: .top :: v94 :: v96 :: .top :: .top :: .top :: .top :: .top :: .top :: .top :: .top :: .top :: .top :: y5 :: v102 :: v103 :: v103 :: .top :: .top :: .top :: .top :: v107 :: v109 :: v109 :: .top :: .top :: v111 :: v113 :: .top :: .top :: .top :: .top :: .top :: .top :: .top :: .top :: .top :: .top :: []), h112)))))) (some (.exit 1, (y0 :: y1 :: y2 :: y3 :: .top :: y5 :: y6 :: y7 :: y8 :: y9 :: y10 :: .top :: .top :: .top :: y14 :: y15 :: y16 :: y17 :: y18 :: y19 :: y20 :: y21 :: y22 :: y23 :: y24 :: y25 :: y26 :: y27 :: y28 :: y29 :: y30 :: y31 :: y32 :: y33 :: y34 :: y35 :: y36 :: y37 :: y38 :: y39 :: y40 :: y41 :: y42 :: y43 :: y44 :: y45 :: y46 :: y47 :: y48 :: y49 :: y50 :: y51 :: y52 :: y53 :: y54 :: y55 :: y56 :: y8 :: y9 :: v27 :: .top :: .top :: .top :: .top :: .top :: .top :: .top :: .top :: .top :: .top :: .top :: .top :: .top :: .top :: .top :: .top :: .top :: .top :: .top :: .top :: .top :: .top :: .top :: .top :: .top :: .top :: .top :: .top :: .top :: .top :: .top :: .top :: .top :: .top :: .top :: .top :: .top :: .top :: .top :: .top :: .top :: .top :: .top :: .top :: .top :: .top :: .top :: .top :: .top :: .top :: .top :: .top :: .top :: .top :: .top :: .top :: .top :: .top :: .top :: .top :: .top :: .top :: .top :: .top :: .top :: .top :: .top :: .top :: .top :: .top :: .top :: .top :: .top :: .top :: .top :: .top :: .top :: .top :: .top :: .top :: .top :: .top :: .top :: []), h)) := by kernel_rfl
theorem e_lk0x1_internal_stringslite_Index (env : Nat → Contract) (z0 z1 z2 z3 z4 z5 z6 z7 z8 z9 z10 z11 z12 z13 z14 z15 z16 z17 z18 z19 z20 z21 z22 z23 z24 z25 z26 z27 z28 z29 z30 z31 z32 z33 z34 z35 z36 z37 z38 z39 z40 z41 z42 z43 z44 z45 z46 z47 z48 z49 z50 z51 z52 z53 z54 z55 z56 : AV) (h : Heap) : lk0_internal_stringslite_Index env (.exit 1) (z0 :: z1 :: z2 :: z3 :: z4 :: z5 :: z6 :: z7 :: z8 :: z9 :: z10 :: z11 :: z12 :: z13 :: z14 :: z15 :: z16 :: z17 :: z18 :: z19 :: z20 :: z21 :: z22 :: z23 :: z24 :: z25 :: z26 :: z27 :: z28 :: z29 :: z30 :: z31 :: z32 :: z33 :: z34 :: z35 :: z36 :: z37 :: z38 :: z39 :: z40 :: z41 :: z42 :: z43 :: z44 :: z45 :: z46 :: z47 :: z48 :: z49 :: z50 :: z51 :: z52 :: z53 :: z54 :: z55 :: z56 :: .top :: .top :: .top :: .top :: .top :: .top :: .top :: .top :: .top :: .top :: .top :: .top :: .top :: .top :: .top :: .top :: .top :: .top :: .top :: .top :: .top :: .top :: .top :: .top :: .top :: .top :: .top :: .top :: .top :: .top :: .top :: .top :: .top :: .top :: .top :: .top :: .top :: .top :: .top :: .top :: .top :: .top :: .top :: .top :: .top :: .top :: .top :: .top :: .top :: .top :: .top :: .top :: .top :: .top :: .top :: .top :: .top :: .top :: .top :: .top :: .top :: .top :: .top :: .top :: .top :: .top :: .top :: .top :: .top :: .top :: .top :: .top :: .top :: .top :: .top :: .top :: .top :: .top :: .top :: .top :: .top :: .top :: .top :: .top :: .top :: .top :: []) h = some ((iv (-1)), h) := by kernel_rfl
theorem e_lk0r_internal_stringslite_Index (env : Nat → Contract) (z0 z1 z2 z3 z4 z5 z6 z7 z8 z9 z10 z11 z12 z13 z14 z15 z16 z17 z18 z19 z20 z21 z22 z23 z24 z25 z26 z27 z28 z29 z30 z31 z32 z33 z34 z35 z36 z37 z38 z39 z40 z41 z42 z43 z44 z45 z46 z47 z48 z49 z50 z51 z52 z53 z54 z55 z56 : AV) (h : Heap) : lk0_internal_stringslite_Index env .ret (z0 :: z1 :: z2 :: z3 :: z4 :: z5 :: z6 :: z7 :: z8 :: z9 :: z10 :: z11 :: z12 :: z13 :: z14 :: z15 :: z16 :: z17 :: z18 :: z19 :: z20 :: z21 :: z22 :: z23 :: z24 :: z25 :: z26 :: z27 :: z28 :: z29 :: z30 :: z31 :: z32 :: z33 :: z34 :: z35 :: z36 :: z37 :: z38 :: z39 :: z40 :: z41 :: z42 :: z43 :: z44 :: z45 :: z46 :: z47 :: z48 :: z49 :: z50 :: z51 :: z52 :: z53 :: z54 :: z55 :: z56 :: .top :: .top :: .top :: .top :: .top :: .top :: .top :: .top :: .top :: .top :: .top :: .top :: .top :: .top :: .top :: .top :: .top :: .top :: .top :: .top :: .top :: .top :: .top :: .top :: .top :: .top :: .top :: .top :: .top :: .top :: .top :: .top :: .top :: .top :: .top :: .top :: .top :: .top :: .top :: .top :: .top :: .top :: .top :: .top :: .top :: .top :: .top :: .top :: .top :: .top :: .top :: .top :: .top :: .top :: .top :: .top :: .top :: .top :: .top :: .top :: .top :: .top :: .top :: .top :: .top :: .top :: .top :: .top :: .top :: .top :: .top :: .top :: .top :: .top :: .top :: .top :: .top :: .top :: .top :: .top :: .top :: .top :: .top :: .top :: .top :: .top :: []) h = some (z4, h) := by kernel_rfl
theorem hb_internal_stringslite_IndexByte : HasBody Tryd.prog n_internal_stringslite_IndexByte := ⟨Tryd.f125, _, Tryd.func125, rfl, by decide⟩
theorem e_internal_stringslite_IndexByte (env : Nat → Contract) (x0 x1 : AV) (h : Heap) : denFn Tryd.prog env n_internal_stringslite_IndexByte [x0, x1] h = obind2 (aCall (env n_internal_bytealg_IndexByteString) [x0, x1] h) fun v1 h2 => some (v1, h2) := by kernel_rfl
section
open Go.Proofs Go.Shelf
def layFmt_ren : Go.Shelf.Ren := ⟨fun | 173 => 60 | 246 => 83 | 283 => 97 | 284 => 98 | 285 => 99 | 286 => 100 | 129 => 110 | 317 => 109 | 318 => 111 | 319 => 112 | 320 => 113 | 337 => 123 | 338 => 124 | n => n, fun | 2 => 2 | 3 => 3 | 9 => 9 | 4 => 4 | 171 => 122 | 0 => 0 | 53 => 123 | 37 => 54 | 5 => 5 | 173 => 126 | 212 => 138 | 51 => 139 | 20 => 20 | 213 => 140 | 46 => 132 | 232 => 156 | 233 => 157 | n => n, fun | 17 => 0 | 18 => 4 | 19 => 5 | n => n⟩
theorem layFmt : Go.Proofs.LaysM.n173 Tryd.prog layFmt_ren := {
  mixed := by kernel_rfl
  f129 := Tryd.func110.trans (congrArg some (by kernel_rfl))
  f173 := Tryd.func60.trans (congrArg some (by kernel_rfl))
  f246 := Tryd.func83.trans (congrArg some (by kernel_rfl))
  f283 := Tryd.func97.trans (congrArg some (by kernel_rfl))
  f284 := Tryd.func98.trans (congrArg some (by kernel_rfl))
  f285 := Tryd.func99.trans (congrArg some (by kernel_rfl))
  f286 := Tryd.func100.trans (congrArg some (by kernel_rfl))
  f317 := Tryd.func109.trans (congrArg some (by kernel_rfl))
  f318 := Tryd.func111.trans (congrArg some (by kernel_rfl))
  f319 := Tryd.func112.trans (congrArg some (by kernel_rfl))
  f320 := Tryd.func113.trans (congrArg some (by kernel_rfl))
  f337 := Tryd.func123.trans (congrArg some (by kernel_rfl))
  f338 := Tryd.func124.trans (congrArg some (by kernel_rfl))
  t0 := Tryd.underlying0
  a0 := Tryd.isAgg0
  z0 := Tryd.sizeOf0
  v0 := Tryd.zeroValue0
  t2 := Tryd.underlying2
  a2 := Tryd.isAgg2
  z2 := Tryd.sizeOf2
  v2 := Tryd.zeroValue2
  t3 := Tryd.underlying3
  a3 := Tryd.isAgg3
  z3 := Tryd.sizeOf3
  v3 := Tryd.zeroValue3
  t4 := Tryd.underlying4
  a4 := Tryd.isAgg4
  z4 := Tryd.sizeOf4
  v4 := Tryd.zeroValue4
  t5 := Tryd.underlying5
  a5 := Tryd.isAgg5
  z5 := Tryd.sizeOf5
  v5 := Tryd.zeroValue5
  t9 := Tryd.underlying9
  a9 := Tryd.isAgg9
  z9 := Tryd.sizeOf9
  v9 := Tryd.zeroValue9
  t20 := Tryd.underlying20
  a20 := Tryd.isAgg20
  z20 := Tryd.sizeOf20
  v20 := Tryd.zeroValue20
  t37 := Tryd.underlying54
  a37 := Tryd.isAgg54
  z37 := Tryd.sizeOf54
  v37 := Tryd.zeroValue54
  t46 := Tryd.underlying132
  a46 := Tryd.isAgg132
  z46 := Tryd.sizeOf132
  v46 := Tryd.zeroValue132
  t51 := Tryd.underlying139
  a51 := Tryd.isAgg139
  z51 := Tryd.sizeOf139
  v51 := Tryd.zeroValue139
  t53 := Tryd.underlying123
  a53 := Tryd.isAgg123
  z53 := Tryd.sizeOf123
  v53 := Tryd.zeroValue123
  t171 := Tryd.underlying122
  a171 := Tryd.isAgg122
  z171 := Tryd.sizeOf122
  v171 := Tryd.zeroValue122
  t173 := Tryd.underlying126
  a173 := Tryd.isAgg126
  z173 := Tryd.sizeOf126
  v173 := Tryd.zeroValue126
  t212 := Tryd.underlying138
  a212 := Tryd.isAgg138
  z212 := Tryd.sizeOf138
  v212 := Tryd.zeroValue138
  t213 := Tryd.underlying140
  a213 := Tryd.isAgg140
  z213 := Tryd.sizeOf140
  t232 := Tryd.underlying156
  a232 := Tryd.isAgg156
  z232 := Tryd.sizeOf156
  v232 := Tryd.zeroValue156
  t233 := Tryd.underlying157
  a233 := Tryd.isAgg157
  z233 := Tryd.sizeOf157
  v233 := Tryd.zeroValue157
  g17 := by kernel_rfl
  g18 := by kernel_rfl
  g19 := by kernel_rfl
  i0 := by kernel_rfl
  i2 := by kernel_rfl
  i3 := by kernel_rfl
  i4 := by kernel_rfl
  i5 := by kernel_rfl
  i9 := by kernel_rfl
  i20 := by kernel_rfl
  i37 := by kernel_rfl
  i46 := by kernel_rfl
  i51 := by kernel_rfl
  i53 := by kernel_rfl
  i171 := by kernel_rfl
  i173 := by kernel_rfl
  i212 := by kernel_rfl
  i232 := by kernel_rfl
  i233 := by kernel_rfl
  m17 := by kernel_rfl
  m18 := by kernel_rfl
  m19 := by kernel_rfl }
def laySplit_ren : Go.Shelf.Ren := ⟨fun | 146 => 72 | 221 => 90 | 268 => 102 | 138 => 103 | 143 => 101 | 195 => 115 | 197 => 116 | 218 => 117 | 219 => 114 | 260 => 129 | 217 => 125 | 225 => 126 | 224 => 127 | 267 => 128 | 266 => 131 | 314 => 132 | n => n, fun | 9 => 9 | 31 => 77 | 3 => 3 | 4 => 4 | 0 => 0 | 105 => 144 | 21 => 21 | 5 => 5 | 46 => 132 | 119 => 160 | 139 => 163 | 138 => 162 | 146 => 158 | 51 => 139 | n => n, fun | 1 => 3 | 3 => 6 | 4 => 7 | n => n⟩
theorem laySplit : Go.Proofs.Lays.n146 Tryd.prog laySplit_ren := {
  mixed := by kernel_rfl
  f138 := Tryd.func103.trans (congrArg some (by kernel_rfl))
  f143 := Tryd.func101.trans (congrArg some (by kernel_rfl))
  f146 := Tryd.func72.trans (congrArg some (by kernel_rfl))
  f195 := Tryd.func115.trans (congrArg some (by kernel_rfl))
  f197 := Tryd.func116.trans (congrArg some (by kernel_rfl))
  f217 := Tryd.func125.trans (congrArg some (by kernel_rfl))
  f218 := Tryd.func117.trans (congrArg some (by kernel_rfl))
  f219 := Tryd.func114.trans (congrArg some (by kernel_rfl))
  f221 := Tryd.func90.trans (congrArg some (by kernel_rfl))
  f224 := Tryd.func127.trans (congrArg some (by kernel_rfl))
  f225 := Tryd.func126.trans (congrArg some (by kernel_rfl))
  f260 := Tryd.func129.trans (congrArg some (by kernel_rfl))
  f266 := Tryd.func131.trans (congrArg some (by kernel_rfl))
  f267 := Tryd.func128.trans (congrArg some (by kernel_rfl))
  f268 := Tryd.func102.trans (congrArg some (by kernel_rfl))
  f314 := Tryd.func132.trans (congrArg some (by kernel_rfl))
  t0 := Tryd.underlying0
  a0 := Tryd.isAgg0
  z0 := Tryd.sizeOf0
  v0 := Tryd.zeroValue0
  t3 := Tryd.underlying3
  a3 := Tryd.isAgg3
  z3 := Tryd.sizeOf3
  v3 := Tryd.zeroValue3
  t4 := Tryd.underlying4
  a4 := Tryd.isAgg4
  z4 := Tryd.sizeOf4
  v4 := Tryd.zeroValue4
  t5 := Tryd.underlying5
  a5 := Tryd.isAgg5
  z5 := Tryd.sizeOf5
  v5 := Tryd.zeroValue5
  t9 := Tryd.underlying9
  a9 := Tryd.isAgg9
  z9 := Tryd.sizeOf9
  v9 := Tryd.zeroValue9
  t21 := Tryd.underlying21
  a21 := Tryd.isAgg21
  z21 := Tryd.sizeOf21
  v21 := Tryd.zeroValue21
  t31 := Tryd.underlying77
  a31 := Tryd.isAgg77
  z31 := Tryd.sizeOf77
  v31 := Tryd.zeroValue77
  t46 := Tryd.underlying132
  a46 := Tryd.isAgg132
  z46 := Tryd.sizeOf132
  v46 := Tryd.zeroValue132
  t51 := Tryd.underlying139
  a51 := Tryd.isAgg139
  z51 := Tryd.sizeOf139
  v51 := Tryd.zeroValue139
  t105 := Tryd.underlying144
  a105 := Tryd.isAgg144
  z105 := Tryd.sizeOf144
  v105 := Tryd.zeroValue144
  t119 := Tryd.underlying160
  a119 := Tryd.isAgg160
  z119 := Tryd.sizeOf160
  t138 := Tryd.underlying162
  a138 := Tryd.isAgg162
  z138 := Tryd.sizeOf162
  v138 := Tryd.zeroValue162
  t139 := Tryd.underlying163
  a139 := Tryd.isAgg163
  z139 := Tryd.sizeOf163
  v139 := Tryd.zeroValue163
  t146 := Tryd.underlying158
  a146 := Tryd.isAgg158
  z146 := Tryd.sizeOf158
  v146 := Tryd.zeroValue158
  g1 := by kernel_rfl
  g3 := by kernel_rfl
  g4 := by kernel_rfl }
def layTrimP_ren : Go.Shelf.Ren := ⟨fun | 101 => 47 | 208 => 75 | 206 => 94 | n => n, fun | 9 => 9 | 4 => 4 | 3 => 3 | n => n, fun | n => n⟩
theorem layTrimP : Go.Proofs.Lays.n101 Tryd.prog layTrimP_ren := {
  mixed := by kernel_rfl
  f101 := Tryd.func47.trans (congrArg some (by kernel_rfl))
  f206 := Tryd.func94.trans (congrArg some (by kernel_rfl))
  f208 := Tryd.func75.trans (congrArg some (by kernel_rfl))
  t3 := Tryd.underlying3
  a3 := Tryd.isAgg3
  z3 := Tryd.sizeOf3
  v3 := Tryd.zeroValue3
  t4 := Tryd.underlying4
  a4 := Tryd.isAgg4
  z4 := Tryd.sizeOf4
  v4 := Tryd.zeroValue4
  t9 := Tryd.underlying9
  a9 := Tryd.isAgg9
  z9 := Tryd.sizeOf9
  v9 := Tryd.zeroValue9 }
def layPInt_ren : Go.Shelf.Ren := ⟨fun | 174 => 74 | 247 => 92 | 245 => 93 | 287 => 104 | 279 => 105 | 280 => 106 | 281 => 107 | 282 => 108 | 321 => 118 | 322 => 119 | 316 => 120 | 171 => 122 | 205 => 121 | 243 => 130 | 246 => 83 | 283 => 97 | 284 => 98 | 285 => 99 | 286 => 100 | 129 => 110 | 317 => 109 | 318 => 111 | 319 => 112 | 320 => 113 | 337 => 123 | 338 => 124 | n => n, fun | 9 => 9 | 3 => 3 | 2 => 2 | 75 => 58 | 85 => 111 | 4 => 4 | 167 => 129 | 5 => 5 | 53 => 123 | 175 => 130 | 46 => 132 | 168 => 133 | 37 => 54 | 0 => 0 | 210 => 150 | 21 => 21 | 127 => 102 | 145 => 155 | 143 => 153 | 171 => 122 | 173 => 126 | 212 => 138 | 51 => 139 | 20 => 20 | 213 => 140 | 232 => 156 | 233 => 157 | 80 => 64 | n => n, fun | 15 => 1 | 16 => 2 | 17 => 0 | 18 => 4 | 19 => 5 | n => n⟩
theorem layPInt : Go.Proofs.LaysC.n174 Tryd.prog layPInt_ren := {
  mixed := by kernel_rfl
  f129 := Tryd.func110.trans (congrArg some (by kernel_rfl))
  f171 := Tryd.func122.trans (congrArg some (by kernel_rfl))
  f174 := Tryd.func74.trans (congrArg some (by kernel_rfl))
  f205 := Tryd.func121.trans (congrArg some (by kernel_rfl))
  f243 := Tryd.func130.trans (congrArg some (by kernel_rfl))
  f245 := Tryd.func93.trans (congrArg some (by kernel_rfl))
  f246 := Tryd.func83.trans (congrArg some (by kernel_rfl))
  f247 := Tryd.func92.trans (congrArg some (by kernel_rfl))
  f279 := Tryd.func105.trans (congrArg some (by kernel_rfl))
  f280 := Tryd.func106.trans (congrArg some (by kernel_rfl))
  f281 := Tryd.func107.trans (congrArg some (by kernel_rfl))
  f282 := Tryd.func108.trans (congrArg some (by kernel_rfl))
  f283 := Tryd.func97.trans (congrArg some (by kernel_rfl))
  f284 := Tryd.func98.trans (congrArg some (by kernel_rfl))
  f285 := Tryd.func99.trans (congrArg some (by kernel_rfl))
  f286 := Tryd.func100.trans (congrArg some (by kernel_rfl))
  f287 := Tryd.func104.trans (congrArg some (by kernel_rfl))
  f316 := Tryd.func120.trans (congrArg some (by kernel_rfl))
  f317 := Tryd.func109.trans (congrArg some (by kernel_rfl))
  f318 := Tryd.func111.trans (congrArg some (by kernel_rfl))
  f319 := Tryd.func112.trans (congrArg some (by kernel_rfl))
  f320 := Tryd.func113.trans (congrArg some (by kernel_rfl))
  f321 := Tryd.func118.trans (congrArg some (by kernel_rfl))
  f322 := Tryd.func119.trans (congrArg some (by kernel_rfl))
  f337 := Tryd.func123.trans (congrArg some (by kernel_rfl))
  f338 := Tryd.func124.trans (congrArg some (by kernel_rfl))
  t0 := Tryd.underlying0
  a0 := Tryd.isAgg0
  z0 := Tryd.sizeOf0
  v0 := Tryd.zeroValue0
  t2 := Tryd.underlying2
  a2 := Tryd.isAgg2
  z2 := Tryd.sizeOf2
  v2 := Tryd.zeroValue2
  t3 := Tryd.underlying3
  a3 := Tryd.isAgg3
  z3 := Tryd.sizeOf3
  v3 := Tryd.zeroValue3
  t4 := Tryd.underlying4
  a4 := Tryd.isAgg4
  z4 := Tryd.sizeOf4
  v4 := Tryd.zeroValue4
  t5 := Tryd.underlying5
  a5 := Tryd.isAgg5
  z5 := Tryd.sizeOf5
  v5 := Tryd.zeroValue5
  t9 := Tryd.underlying9
  a9 := Tryd.isAgg9
  z9 := Tryd.sizeOf9
  v9 := Tryd.zeroValue9
  t20 := Tryd.underlying20
  a20 := Tryd.isAgg20
  z20 := Tryd.sizeOf20
  v20 := Tryd.zeroValue20
  t21 := Tryd.underlying21
  a21 := Tryd.isAgg21
  z21 := Tryd.sizeOf21
  v21 := Tryd.zeroValue21
  t37 := Tryd.underlying54
  a37 := Tryd.isAgg54
  z37 := Tryd.sizeOf54
  v37 := Tryd.zeroValue54
  t46 := Tryd.underlying132
  a46 := Tryd.isAgg132
  z46 := Tryd.sizeOf132
  v46 := Tryd.zeroValue132
  t51 := Tryd.underlying139
  a51 := Tryd.isAgg139
  z51 := Tryd.sizeOf139
  v51 := Tryd.zeroValue139
  t53 := Tryd.underlying123
  a53 := Tryd.isAgg123
  z53 := Tryd.sizeOf123
  v53 := Tryd.zeroValue123
  t75 := Tryd.underlying58
  a75 := Tryd.isAgg58
  z75 := Tryd.sizeOf58
  v75 := Tryd.zeroValue58
  t85 := Tryd.underlying111
  a85 := Tryd.isAgg111
  z85 := Tryd.sizeOf111
  v85 := Tryd.zeroValue111
  t127 := Tryd.underlying102
  a127 := Tryd.isAgg102
  z127 := Tryd.sizeOf102
  v127 := Tryd.zeroValue102
  t143 := Tryd.underlying153
  a143 := Tryd.isAgg153
  z143 := Tryd.sizeOf153
  v143 := Tryd.zeroValue153
  t145 := Tryd.underlying155
  a145 := Tryd.isAgg155
  z145 := Tryd.sizeOf155
  v145 := Tryd.zeroValue155
  t167 := Tryd.underlying129
  a167 := Tryd.isAgg129
  z167 := Tryd.sizeOf129
  v167 := Tryd.zeroValue129
  t168 := Tryd.underlying133
  a168 := Tryd.isAgg133
  z168 := Tryd.sizeOf133
  v168 := Tryd.zeroValue133
  t171 := Tryd.underlying122
  a171 := Tryd.isAgg122
  z171 := Tryd.sizeOf122
  v171 := Tryd.zeroValue122
  t173 := Tryd.underlying126
  a173 := Tryd.isAgg126
  z173 := Tryd.sizeOf126
  v173 := Tryd.zeroValue126
  t175 := Tryd.underlying130
  a175 := Tryd.isAgg130
  z175 := Tryd.sizeOf130
  v175 := Tryd.zeroValue130
  t210 := Tryd.underlying150
  a210 := Tryd.isAgg150
  z210 := Tryd.sizeOf150
  v210 := Tryd.zeroValue150
  t212 := Tryd.underlying138
  a212 := Tryd.isAgg138
  z212 := Tryd.sizeOf138
  v212 := Tryd.zeroValue138
  t213 := Tryd.underlying140
  a213 := Tryd.isAgg140
  z213 := Tryd.sizeOf140
  t232 := Tryd.underlying156
  a232 := Tryd.isAgg156
  z232 := Tryd.sizeOf156
  v232 := Tryd.zeroValue156
  t233 := Tryd.underlying157
  a233 := Tryd.isAgg157
  z233 := Tryd.sizeOf157
  v233 := Tryd.zeroValue157
  g15 := by kernel_rfl
  g16 := by kernel_rfl
  g17 := by kernel_rfl
  g18 := by kernel_rfl
  g19 := by kernel_rfl
  t80 := Tryd.underlying64
  a80 := Tryd.isAgg64
  z80 := Tryd.sizeOf64
  v80 := Tryd.zeroValue64
  i0 := by kernel_rfl
  i2 := by kernel_rfl
  i3 := by kernel_rfl
  i4 := by kernel_rfl
  i5 := by kernel_rfl
  i9 := by kernel_rfl
  i20 := by kernel_rfl
  i21 := by kernel_rfl
  i37 := by kernel_rfl
  i46 := by kernel_rfl
  i51 := by kernel_rfl
  i53 := by kernel_rfl
  i75 := by kernel_rfl
  i80 := by kernel_rfl
  i85 := by kernel_rfl
  i127 := by kernel_rfl
  i143 := by kernel_rfl
  i145 := by kernel_rfl
  i167 := by kernel_rfl
  i168 := by kernel_rfl
  i171 := by kernel_rfl
  i173 := by kernel_rfl
  i175 := by kernel_rfl
  i210 := by kernel_rfl
  i212 := by kernel_rfl
  i232 := by kernel_rfl
  i233 := by kernel_rfl
  m15 := by kernel_rfl
  m16 := by kernel_rfl
  m17 := by kernel_rfl
  m18 := by kernel_rfl
  m19 := by kernel_rfl
  c0 := by kernel_rfl
  c2 := by kernel_rfl
  c3 := by kernel_rfl
  c4 := by kernel_rfl
  c5 := by kernel_rfl
  c9 := by kernel_rfl
  c20 := by kernel_rfl
  c21 := by kernel_rfl
  c37 := by kernel_rfl
  c46 := by kernel_rfl
  c51 := by kernel_rfl
  c53 := by kernel_rfl
  c75 := by kernel_rfl
  c80 := by kernel_rfl
  c85 := by kernel_rfl
  c127 := by kernel_rfl
  c143 := by kernel_rfl
  c145 := by kernel_rfl
  c167 := by kernel_rfl
  c168 := by kernel_rfl
  c171 := by kernel_rfl
  c173 := by kernel_rfl
  c175 := by kernel_rfl
  c210 := by kernel_rfl
  c212 := by kernel_rfl
  c213 := by kernel_rfl
  c232 := by kernel_rfl
  c233 := by kernel_rfl }
def layBStr_ren : Go.Shelf.Ren := ⟨fun | 169 => 32 | n => n, fun | 70 => 53 | 9 => 9 | 0 => 0 | 72 => 56 | 37 => 54 | 127 => 102 | 3 => 3 | 5 => 5 | n => n, fun | n => n⟩
theorem layBStr : Go.Proofs.Lays.n169 Tryd.prog layBStr_ren := {
  mixed := by kernel_rfl
  f169 := Tryd.func32.trans (congrArg some (by kernel_rfl))
  t0 := Tryd.underlying0
  a0 := Tryd.isAgg0
  z0 := Tryd.sizeOf0
  v0 := Tryd.zeroValue0
  t3 := Tryd.underlying3
  a3 := Tryd.isAgg3
  z3 := Tryd.sizeOf3
  v3 := Tryd.zeroValue3
  t9 := Tryd.underlying9
  a9 := Tryd.isAgg9
  z9 := Tryd.sizeOf9
  v9 := Tryd.zeroValue9
  t37 := Tryd.underlying54
  a37 := Tryd.isAgg54
  z37 := Tryd.sizeOf54
  v37 := Tryd.zeroValue54
  t70 := Tryd.underlying53
  a70 := Tryd.isAgg53
  z70 := Tryd.sizeOf53
  v70 := Tryd.zeroValue53
  t72 := Tryd.underlying56
  a72 := Tryd.isAgg56
  z72 := Tryd.sizeOf56
  v72 := Tryd.zeroValue56
  t127 := Tryd.underlying102
  a127 := Tryd.isAgg102
  z127 := Tryd.sizeOf102
  v127 := Tryd.zeroValue102 }
end
end Go.Proofs.YtielmmmoldloeaaDoor
