/-
  The runs of the functions of this seat, in open form. Printed by a program of mine (gen.py).
-/
import Derived.Test.YtbamachgomdjkaaDoorProg
import Derived.Test.YtbamachgomdjkaaDoorEngDat2
import Derived.WalkKit
import Derived.BigCall
import Derived.Deep.RegionHeld3
import Derived.Shelf.Strings.BuilderF
import Derived.Shelf.Strings.BuilderK
import Derived.Shelf.Strings.MapGrows
import Derived.Lib.IndexBytes
import Derived.Shelf.Strings.Split
import Derived.Lib.ParseIntBCases
import Derived.Lib.ParseIntBTie
import Derived.Lib.ItoaMem
import Derived.Lib.ParseIntBCases
import Derived.Lib.ParseIntBTie
import Derived.Lib.ItoaMem
import Derived.Shelf.Strconv.Itoa4
import Derived.Shelf.Strings.Split
import Derived.Shelf.Strings.Prefix
import Derived.Shelf.Strconv.ParseIntPublic10
import Derived.Shelf.Strings.BuilderF
namespace Go.Proofs.YtbamachgomdjkaaDoor
open Go Go.Eng
set_option linter.unusedVariables false

@[simp] abbrev n_laws_FnExactReadSymbols : Nat := 3
@[simp] abbrev n_spec_ReadSymbols : Nat := 4
@[simp] abbrev n_impl_ReadSymbols : Nat := 5
@[simp] abbrev n_laws_eqSymbolS : Nat := 6
@[simp] abbrev n_laws_markSymbolS : Nat := 7
@[simp] abbrev n_laws_heldSymbolS : Nat := 8
@[simp] abbrev n_spec_l01Split : Nat := 9
@[simp] abbrev n_spec_l20Line : Nat := 10
@[simp] abbrev n_spec_l20Ok : Nat := 11
@[simp] abbrev n_impl_linesOf : Nat := 12
@[simp] abbrev n_impl_wordsOf : Nat := 13
@[simp] abbrev n_impl_ReadDecimal : Nat := 14
@[simp] abbrev n_impl_ValidSymbols : Nat := 15
@[simp] abbrev n_impl_SymbolsText : Nat := 16
@[simp] abbrev n_laws_eqSymbol : Nat := 17
@[simp] abbrev n_laws_markText : Nat := 18
@[simp] abbrev n_spec_l01Number : Nat := 19
@[simp] abbrev n_spec_IsLabel : Nat := 20
@[simp] abbrev n_spec_l02Box : Nat := 21
@[simp] abbrev n_strings_HasSuffix : Nat := 22
@[simp] abbrev n_strings_Split : Nat := 23
@[simp] abbrev n_strings_TrimSuffix : Nat := 24
@[simp] abbrev n_strings_TrimPrefix : Nat := 25
@[simp] abbrev n_strconv_ParseInt : Nat := 26
@[simp] abbrev n_impl_Decimal : Nat := 27
@[simp] abbrev n_slices_ContainsFunc_impl_Symbol_impl_Symbol : Nat := 28
@[simp] abbrev n_impl_ValidSymbols_1 : Nat := 29
@[simp] abbrev n_impl_IsLabel : Nat := 30
@[simp] abbrev n_impl_ValidBox : Nat := 31
@[simp] abbrev n_strings_Builder_WriteString : Nat := 32
@[simp] abbrev n_strings_Builder_String : Nat := 33
@[simp] abbrev n_laws_eqBox : Nat := 34
@[simp] abbrev n_spec_l01Digit : Nat := 35
@[simp] abbrev n_spec_l01Dec : Nat := 36
@[simp] abbrev n_spec_l11Label : Nat := 37
@[simp] abbrev n_spec_l00In : Nat := 38
@[simp] abbrev n_internal_stringslite_HasSuffix : Nat := 39
@[simp] abbrev n_strings_genSplit : Nat := 40
@[simp] abbrev n_internal_stringslite_TrimSuffix : Nat := 41
@[simp] abbrev n_internal_stringslite_TrimPrefix : Nat := 42
@[simp] abbrev n_internal_strconv_ParseInt : Nat := 43
@[simp] abbrev n_strconv_toError : Nat := 44
@[simp] abbrev n_strconv_FormatInt : Nat := 45
@[simp] abbrev n_slices_IndexFunc_impl_Symbol_impl_Symbol : Nat := 46
@[simp] abbrev n_impl_isLetter : Nat := 47
@[simp] abbrev n_strings_Contains : Nat := 48
@[simp] abbrev n_impl_within : Nat := 49
@[simp] abbrev n_strings_Builder_copyCheck : Nat := 50
@[simp] abbrev n_spec_l01Small : Nat := 51
@[simp] abbrev n_strings_explode : Nat := 52
@[simp] abbrev n_strings_Count : Nat := 53
@[simp] abbrev n_strings_Index : Nat := 54
@[simp] abbrev n_internal_stringslite_HasPrefix : Nat := 55
@[simp] abbrev n_internal_strconv_ParseUint : Nat := 56
@[simp] abbrev n_strconv_syntaxError : Nat := 57
@[simp] abbrev n_strconv_rangeError : Nat := 58
@[simp] abbrev n_strconv_baseError : Nat := 59
@[simp] abbrev n_strconv_bitSizeError : Nat := 60
@[simp] abbrev n_internal_strconv_FormatInt : Nat := 61
@[simp] abbrev n_unicode_utf8_RuneCountInString : Nat := 63
@[simp] abbrev n_unicode_utf8_DecodeRuneInString : Nat := 64
@[simp] abbrev n_internal_bytealg_CountString : Nat := 65
@[simp] abbrev n_internal_stringslite_Index : Nat := 66
@[simp] abbrev n_internal_strconv_lower : Nat := 67
@[simp] abbrev n_internal_strconv_underscoreOK : Nat := 68
@[simp] abbrev n_internal_stringslite_Clone : Nat := 69
@[simp] abbrev n_errors_New : Nat := 70
@[simp] abbrev n_strconv_Itoa : Nat := 71
@[simp] abbrev n_internal_strconv_small : Nat := 72
@[simp] abbrev n_internal_strconv_numDigits : Nat := 73
@[simp] abbrev n_internal_strconv_formatBase10 : Nat := 74
@[simp] abbrev n_internal_strconv_formatBits : Nat := 75
@[simp] abbrev n_unicode_utf8_decodeRuneInStringSlow : Nat := 76
@[simp] abbrev n_internal_stringslite_IndexByte : Nat := 77
@[simp] abbrev n_internal_bytealg_IndexString : Nat := 78
@[simp] abbrev n_internal_bytealg_Cutover : Nat := 79
@[simp] abbrev n_internal_bytealg_IndexRabinKarp_string : Nat := 80
@[simp] abbrev n_internal_strconv_Itoa : Nat := 81
@[simp] abbrev n_internal_strconv_log10Pow2 : Nat := 82
@[simp] abbrev n_math_bits_Len64 : Nat := 83
@[simp] abbrev n_internal_strconv_bool2_int : Nat := 84
@[simp] abbrev n_internal_strconv_isPowerOfTwo : Nat := 85
@[simp] abbrev n_math_bits_TrailingZeros : Nat := 86
@[simp] abbrev n_internal_bytealg_IndexByteString : Nat := 87
@[simp] abbrev n_internal_bytealg_hashStr_string : Nat := 88
@[simp] abbrev n_math_bits_TrailingZeros32 : Nat := 89
@[simp] abbrev n_math_bits_TrailingZeros64 : Nat := 90
@[simp] abbrev n_gosem_cut_vars : Nat := 120
theorem mixed : Tryd.prog.follows .mixedOrders = true := by kernel_rfl
abbrev atrr (c : Code) : Code := (codeR (codeR c))
abbrev atrrr (c : Code) : Code := (codeR (codeR (codeR c)))
abbrev atrrrr (c : Code) : Code := (codeR (codeR (codeR (codeR c))))
abbrev atrlrll (c : Code) : Code := (codeL (codeL (codeR (codeL (codeR c)))))
abbrev atrrrrr (c : Code) : Code := (codeR (codeR (codeR (codeR (codeR c)))))
abbrev atrrlrll (c : Code) : Code := (codeL (codeL (codeR (codeL (codeR (codeR c))))))
abbrev atrrrlll (c : Code) : Code := (codeL (codeL (codeL (codeR (codeR (codeR c))))))
abbrev atrrrrrr (c : Code) : Code := (codeR (codeR (codeR (codeR (codeR (codeR c))))))
abbrev atrrrlrll (c : Code) : Code := (codeL (codeL (codeR (codeL (codeR (codeR (codeR c)))))))
abbrev atrrrrlrll (c : Code) : Code := (codeL (codeL (codeR (codeL (codeR (codeR (codeR (codeR c))))))))
abbrev atrrrrrlrll (c : Code) : Code := (codeL (codeL (codeR (codeL (codeR (codeR (codeR (codeR (codeR c)))))))))
abbrev atrrrrrrrrr (c : Code) : Code := (codeR (codeR (codeR (codeR (codeR (codeR (codeR (codeR (codeR c)))))))))
abbrev atrrrrlrllrrr (c : Code) : Code := (codeR (codeR (codeR (codeL (codeL (codeR (codeL (codeR (codeR (codeR (codeR c)))))))))))
abbrev atrrrrrrrrlll (c : Code) : Code := (codeL (codeL (codeL (codeR (codeR (codeR (codeR (codeR (codeR (codeR (codeR c)))))))))))
abbrev atrrrrlrllrrllrrrrr (c : Code) : Code := (codeR (codeR (codeR (codeR (codeR (codeL (codeL (codeR (codeR (codeL (codeL (codeR (codeL (codeR (codeR (codeR (codeR c)))))))))))))))))
abbrev atrrrrlrllrrllrrrrlrll (c : Code) : Code := (codeL (codeL (codeR (codeL (codeR (codeR (codeR (codeR (codeL (codeL (codeR (codeR (codeL (codeL (codeR (codeL (codeR (codeR (codeR (codeR c))))))))))))))))))))
theorem hb_laws_FnExactReadSymbols : HasBody Tryd.prog n_laws_FnExactReadSymbols := ⟨Tryd.f3, _, Tryd.func3, rfl, by decide⟩
theorem e_laws_FnExactReadSymbols (env : Nat → Contract) (x0 : AV) (h : Heap) : denFn Tryd.prog env n_laws_FnExactReadSymbols [x0] h = obind (aLenK .str x0) fun v1 => obind (aBin .gtr v1 (iv 1048576)) fun v2 => condB v2 (some ((bv true), h)) (obind2 (aCall (env n_spec_ReadSymbols) [x0] h) fun v3 h4 => obind (aExtract v3 0) fun v5 => obind (aExtract v3 1) fun v6 => obind2 (aCall (env n_impl_ReadSymbols) [x0] h4) fun v7 h8 => obind (aExtract v7 0) fun v9 => obind (aExtract v7 1) fun v10 => obind2 (aCall (env n_laws_eqSymbolS) [v9, v5] h8) fun v11 h12 => obind (aUn .not v11) fun v13 => obind2 (guardB v13 false (obind (aCmp .neq .bool v10 v6) fun v14 => some (v14, h12)) (some (und, h12))) fun v15 h16 => obind (aPick v13 (bv true) v15) fun v17 => condB v17 (some ((bv false), h16)) (obind2 (aCall (env n_laws_markSymbolS) [v9, (iv 1)] h16) fun v18 h19 => obind2 (aCall (env n_laws_heldSymbolS) [v9, (iv 1)] h19) fun v20 h21 => obind (aBin .lss v20 (iv 0)) fun v22 => condB v22 (some ((bv false), h21)) (obind (aCmp .neq .plain v20 v18) fun v23 => condB v23 (some ((bv false), h21)) (obind2 (aCall (env n_impl_ReadSymbols) [x0] h21) fun v24 h25 => obind (aExtract v24 0) fun v26 => obind (aExtract v24 1) fun v27 => obind2 (aCall (env n_laws_eqSymbolS) [v26, v5] h25) fun v28 h29 => obind (aUn .not v28) fun v30 => obind2 (guardB v30 false (obind (aCmp .neq .bool v27 v6) fun v31 => some (v31, h29)) (some (und, h29))) fun v32 h33 => obind (aPick v30 (bv true) v32) fun v34 => condB v34 (some ((bv false), h33)) (obind2 (aCall (env n_laws_heldSymbolS) [v9, (iv 1)] h33) fun v35 h36 => obind (aBin .lss v35 (iv 0)) fun v37 => condB v37 (some ((bv false), h36)) (obind (aCmp .neq .plain v35 v18) fun v38 => condB v38 (some ((bv false), h36)) (some ((bv true), h36)))))))) := by kernel_rfl
noncomputable abbrev c_spec_ReadSymbols : Code := (Tryd.f4.body).getD .skip
noncomputable abbrev nm_spec_ReadSymbols : List Bool := namedOf Tryd.f4
theorem hb_spec_ReadSymbols : HasBody Tryd.prog n_spec_ReadSymbols := ⟨Tryd.f4, _, Tryd.func4, rfl, by decide⟩
abbrev hm0_spec_ReadSymbols : List Bool := [true, true, false, false, true, true, true, false, false, true, true, true, true, true, true, true, true, true, true, false, false, false, false, false, false, false, false, false, false, false, false, false, false, false, false, false, false, false, false, false, true, true, true, true]
abbrev xm0_spec_ReadSymbols : List Bool := [true, true, true, true, true, true, true, true, true, true, true, true, true, true, true, true, true, true, true, false, false, false, false, false, false, false, false, false, false, false, false, false, false, false, false, false, false, false, false, false, true, true, true, true]
noncomputable def lb0_spec_ReadSymbols (env : Nat → Contract) : TM → Heap → Option Res := fun tm h => denC Tryd.prog env nm_spec_ReadSymbols (atrrrrlrll c_spec_ReadSymbols) Res tm h fun e tm h => some (e, tm, h)
noncomputable def lk0_spec_ReadSymbols (env : Nat → Contract) : AX → TM → Heap → Option (AV × Heap) := (kBlock 0 (kSeq Tryd.prog env nm_spec_ReadSymbols (atrrrrr c_spec_ReadSymbols) _ (kRet Tryd.prog Tryd.f4.results.toList)))
theorem e_spec_ReadSymbols (env : Nat → Contract) (x0 : AV) (h : Heap) : denFn Tryd.prog env n_spec_ReadSymbols [x0] h = obind2 (aCall (env n_spec_l01Split) [x0, (.sc (.int .u8 10))] h) fun v1 h2 => obind2 (aBuildSlice [(sv ⟨#[]⟩), (iv 0), (iv 0), (iv 0), (iv 0)] 0 [] h2) fun v3 h4 => obind (aLenK .slice v1) fun v5 => obind (aBin .sub v5 (iv 1)) fun v6 => obind (aIndexAddr 1 v1 v6 h4) fun v7 => obind (aLoad false 1 v7 h4) fun v8 => obind (aCmp .neq .plain v8 (sv ⟨#[]⟩)) fun v9 => condB v9 (some ((.tup [nilS, (bv false)]), h4)) (obind (loopP hm0_spec_ReadSymbols xm0_spec_ReadSymbols (lb0_spec_ReadSymbols env) [x0, und, .top, .top, v1, v3, (iv 0), .top, .top, x0, v1, v3, v1, v1, v5, v6, v7, v8, v9, .top, .top, .top, .top, .top, .top, .top, .top, .top, .top, .top, .top, .top, .top, .top, .top, .top, .top, .top, .top, .top, und, und, und, und] h4) fun r => lk0_spec_ReadSymbols env r.1 r.2.1 r.2.2) := by kernel_rfl
theorem e_lb0_spec_ReadSymbols (env : Nat → Contract) (y0 y1 y4 y5 y6 y9 y10 y11 y12 y13 y14 y15 y16 y17 y18 y40 y41 y42 y43 : AV) (h : Heap) : lb0_spec_ReadSymbols env [y0, y1, .top, .top, y4, y5, y6, .top, .top, y9, y10, y11, y12, y13, y14, y15, y16, y17, y18, .top, .top, .top, .top, .top, .top, .top, .top, .top, .top, .top, .top, .top, .top, .top, .top, .top, .top, .top, .top, .top, y40, y41, y42, y43] h = obind (aLenK .slice y4) fun v10 => obind (aBin .sub v10 (iv 1)) fun v11 => obind (aBin .lss y6 v11) fun v12 => condB v12 (obind (aIndexAddr 1 y4 y6 h) fun v13 => obind (aLoad false 1 v13 h) fun v14 => obind2 (aCall (env n_spec_l20Line) [v14] h) fun v15 h16 => obind (aExtract v15 0) fun v17 => obind (aExtract v15 1) fun v18 => obind2 (aBox [(sv ⟨#[]⟩), (iv 0), (iv 0), (iv 0), (iv 0)] h16) fun v19 h20 => obind (aStore 5 v19 v17 h20) fun h21 => obind (aUn .not v18) fun v22 => condB v22 (some (.ret, [y0, y1, nilS, (bv false), y4, y5, y6, v19, v18, y9, y10, y11, y12, y13, y14, y15, y16, y17, y18, y6, y4, v10, v11, v12, .top, .top, v15, y4, y6, v13, v14, v15, v17, v18, v18, v22, .top, .top, .top, .top, y40, y41, y42, y43], h21)) (obind (aLoad true 5 v19 h21) fun v23 => obind2 (aBuildSlice [(sv ⟨#[]⟩), (iv 0), (iv 0), (iv 0), (iv 0)] 1 [(0, v23)] h21) fun v24 h25 => obind2 (aAppend false 5 48 y5 v24 h25) fun v26 h27 => obind (aBin .add y6 (iv 1)) fun v28 => some (.normal, [y0, y1, .top, .top, y4, v26, v28, v19, v18, y9, y10, y11, y12, y13, y14, y15, y16, y17, y18, y6, y4, v10, v11, v12, y6, v28, v15, y4, y6, v13, v14, v15, v17, v18, v18, v22, y5, v23, v24, v26, y40, y41, y42, y43], h27))) (some (.exit 0, [y0, y1, .top, .top, y4, y5, y6, .top, .top, y9, y10, y11, y12, y13, y14, y15, y16, y17, y18, y6, y4, v10, v11, v12, .top, .top, .top, .top, .top, .top, .top, .top, .top, .top, .top, .top, .top, .top, .top, .top, y40, y41, y42, y43], h)) := by kernel_rfl
theorem e_lk0x0_spec_ReadSymbols (env : Nat → Contract) (z0 z1 z2 z3 z4 z5 z6 z7 z8 z9 z10 z11 z12 z13 z14 z15 z16 z17 z18 z40 z41 z42 z43 : AV) (h : Heap) : lk0_spec_ReadSymbols env (.exit 0) [z0, z1, z2, z3, z4, z5, z6, z7, z8, z9, z10, z11, z12, z13, z14, z15, z16, z17, z18, .top, .top, .top, .top, .top, .top, .top, .top, .top, .top, .top, .top, .top, .top, .top, .top, .top, .top, .top, .top, .top, z40, z41, z42, z43] h = obind2 (aCall (env n_spec_l20Ok) [z5] h) fun v29 h30 => obind (aUn .not v29) fun v31 => condB v31 (some ((.tup [nilS, (bv false)]), h30)) (some ((.tup [z5, (bv true)]), h30)) := by kernel_rfl
theorem e_lk0r_spec_ReadSymbols (env : Nat → Contract) (z0 z1 z2 z3 z4 z5 z6 z7 z8 z9 z10 z11 z12 z13 z14 z15 z16 z17 z18 z40 z41 z42 z43 : AV) (h : Heap) : lk0_spec_ReadSymbols env .ret [z0, z1, z2, z3, z4, z5, z6, z7, z8, z9, z10, z11, z12, z13, z14, z15, z16, z17, z18, .top, .top, .top, .top, .top, .top, .top, .top, .top, .top, .top, .top, .top, .top, .top, .top, .top, .top, .top, .top, .top, z40, z41, z42, z43] h = some ((.tup [z2, z3]), h) := by kernel_rfl
noncomputable abbrev c_impl_ReadSymbols : Code := (Tryd.f5.body).getD .skip
noncomputable abbrev nm_impl_ReadSymbols : List Bool := namedOf Tryd.f5
theorem hb_impl_ReadSymbols : HasBody Tryd.prog n_impl_ReadSymbols := ⟨Tryd.f5, _, Tryd.func5, rfl, by decide⟩
abbrev hm0_impl_ReadSymbols : List Bool := (true :: true :: false :: false :: true :: true :: true :: true :: false :: false :: false :: false :: true :: true :: true :: true :: true :: true :: true :: true :: true :: true :: false :: false :: false :: false :: false :: false :: false :: false :: false :: false :: false :: false :: false :: false :: false :: false :: false :: false :: false :: false :: false :: false :: false :: false :: false :: false :: false :: false :: false :: false :: false :: false :: false :: false :: false :: false :: false :: false :: false :: false :: true :: true :: true :: true :: true :: true :: true :: true :: true :: true :: [])
abbrev xm0_impl_ReadSymbols : List Bool := (true :: true :: true :: true :: true :: true :: true :: true :: true :: true :: true :: true :: true :: true :: true :: true :: true :: true :: true :: true :: true :: false :: false :: false :: false :: false :: false :: false :: false :: false :: false :: false :: false :: false :: false :: false :: false :: false :: false :: false :: false :: false :: false :: false :: false :: false :: false :: false :: false :: false :: false :: false :: false :: false :: false :: false :: false :: false :: false :: false :: false :: false :: true :: true :: true :: true :: true :: true :: true :: true :: true :: true :: [])
noncomputable def lb0_impl_ReadSymbols (env : Nat → Contract) : TM → Heap → Option Res := fun tm h => denC Tryd.prog env nm_impl_ReadSymbols (atrrrrlrll c_impl_ReadSymbols) Res tm h fun e tm h => some (e, tm, h)
noncomputable def lk0_impl_ReadSymbols (env : Nat → Contract) : AX → TM → Heap → Option (AV × Heap) := (kBlock 0 (kSeq Tryd.prog env nm_impl_ReadSymbols (atrrrrr c_impl_ReadSymbols) _ (kRet Tryd.prog Tryd.f5.results.toList)))
abbrev hm1_impl_ReadSymbols : List Bool := (true :: true :: true :: true :: true :: true :: true :: true :: true :: true :: true :: false :: true :: true :: true :: true :: true :: true :: true :: true :: true :: true :: true :: true :: true :: true :: true :: true :: true :: true :: true :: false :: false :: false :: false :: false :: false :: false :: false :: false :: false :: false :: false :: false :: false :: true :: true :: true :: true :: true :: true :: true :: true :: true :: true :: true :: true :: true :: true :: true :: true :: true :: true :: true :: true :: true :: true :: true :: true :: true :: true :: true :: [])
abbrev xm1_impl_ReadSymbols : List Bool := (true :: true :: true :: true :: true :: true :: true :: true :: true :: true :: true :: true :: true :: true :: true :: true :: true :: true :: true :: true :: true :: true :: true :: true :: true :: true :: true :: true :: true :: true :: false :: false :: false :: false :: false :: false :: false :: false :: false :: false :: false :: false :: false :: false :: false :: true :: true :: true :: true :: true :: true :: true :: true :: true :: true :: true :: true :: true :: true :: true :: true :: true :: true :: true :: true :: true :: true :: true :: true :: true :: true :: true :: [])
noncomputable def lb1_impl_ReadSymbols (env : Nat → Contract) : TM → Heap → Option Res := fun tm h => denC Tryd.prog env nm_impl_ReadSymbols (atrrrrlrllrrllrrrrlrll c_impl_ReadSymbols) Res tm h fun e tm h => some (e, tm, h)
noncomputable def lk1_impl_ReadSymbols (env : Nat → Contract) : AX → TM → Heap → Option (Res) := (kBlock 2 (kSeq Tryd.prog env nm_impl_ReadSymbols (atrrrrlrllrrllrrrrr c_impl_ReadSymbols) _ (kBlock 1 (kSeq Tryd.prog env nm_impl_ReadSymbols (atrrrrlrllrrr c_impl_ReadSymbols) _ (fun e tm h => some (e, tm, h))))))
theorem e_impl_ReadSymbols (env : Nat → Contract) (x0 : AV) (h : Heap) : denFn Tryd.prog env n_impl_ReadSymbols [x0] h = obind2 (aCall (env n_impl_linesOf) [x0] h) fun v1 h2 => obind (aExtract v1 0) fun v3 => obind (aExtract v1 1) fun v4 => obind (aUn .not v4) fun v5 => condB v5 (some ((.tup [nilS, (bv false)]), h2)) (obind (aLenK .slice v3) fun v6 => obind (loopP hm0_impl_ReadSymbols xm0_impl_ReadSymbols (lb0_impl_ReadSymbols env) (x0 :: und :: .top :: .top :: v3 :: v4 :: nilS :: und :: .top :: .top :: .top :: .top :: v1 :: x0 :: v1 :: v3 :: v4 :: v4 :: v5 :: v3 :: v6 :: (iv 0) :: .top :: .top :: .top :: .top :: .top :: .top :: .top :: .top :: .top :: .top :: .top :: .top :: .top :: .top :: .top :: .top :: .top :: .top :: .top :: .top :: .top :: .top :: .top :: .top :: .top :: .top :: .top :: .top :: .top :: .top :: .top :: .top :: .top :: .top :: .top :: .top :: .top :: .top :: .top :: .top :: und :: und :: und :: und :: und :: und :: und :: und :: und :: und :: []) h2) fun r => lk0_impl_ReadSymbols env r.1 r.2.1 r.2.2) := by kernel_rfl
theorem e_lb0_impl_ReadSymbols (env : Nat → Contract) (y0 y1 y4 y5 y6 y7 y12 y13 y14 y15 y16 y17 y18 y19 y20 y21 y62 y63 y64 y65 y66 y67 y68 y69 y70 y71 : AV) (h : Heap) : lb0_impl_ReadSymbols env (y0 :: y1 :: .top :: .top :: y4 :: y5 :: y6 :: y7 :: .top :: .top :: .top :: .top :: y12 :: y13 :: y14 :: y15 :: y16 :: y17 :: y18 :: y19 :: y20 :: y21 :: .top :: .top :: .top :: .top :: .top :: .top :: .top :: .top :: .top :: .top :: .top :: .top :: .top :: .top :: .top :: .top :: .top :: .top :: .top :: .top :: .top :: .top :: .top :: .top :: .top :: .top :: .top :: .top :: .top :: .top :: .top :: .top :: .top :: .top :: .top :: .top :: .top :: .top :: .top :: .top :: y62 :: y63 :: y64 :: y65 :: y66 :: y67 :: y68 :: y69 :: y70 :: y71 :: []) h = obind (aBin .lss y21 y20) fun v7 => condB v7 (obind (aIndexAddr 1 y19 y21 h) fun v8 => obind (aLoad false 1 v8 h) fun v9 => obind2 (aCall (env n_impl_wordsOf) [v9] h) fun v10 h11 => obind (aLenK .slice v10) fun v12 => obind (aCmp .neq .plain v12 (iv 5)) fun v13 => condB v13 (some (.ret, (y0 :: y1 :: nilS :: (bv false) :: y4 :: y5 :: y6 :: y7 :: v9 :: v10 :: .top :: .top :: y12 :: y13 :: y14 :: y15 :: y16 :: y17 :: y18 :: y19 :: y20 :: y21 :: v7 :: v8 :: v9 :: v9 :: v10 :: v10 :: v12 :: v13 :: .top :: .top :: .top :: .top :: .top :: .top :: .top :: .top :: .top :: .top :: .top :: .top :: .top :: .top :: .top :: .top :: .top :: .top :: .top :: .top :: .top :: .top :: .top :: .top :: .top :: .top :: .top :: .top :: .top :: .top :: .top :: .top :: y62 :: y63 :: y64 :: y65 :: y66 :: y67 :: y68 :: y69 :: y70 :: y71 :: []), h11)) (obind2 (aBox [(iv 0), (iv 0), (iv 0), (iv 0)] h11) fun v14 h15 => obind (loopP hm1_impl_ReadSymbols xm1_impl_ReadSymbols (lb1_impl_ReadSymbols env) (y0 :: y1 :: .top :: .top :: y4 :: y5 :: y6 :: y7 :: v9 :: v10 :: v14 :: .top :: y12 :: y13 :: y14 :: y15 :: y16 :: y17 :: y18 :: y19 :: y20 :: y21 :: v7 :: v8 :: v9 :: v9 :: v10 :: v10 :: v12 :: v13 :: (iv 0) :: .top :: .top :: .top :: .top :: .top :: .top :: .top :: .top :: .top :: .top :: .top :: .top :: .top :: .top :: .top :: .top :: .top :: .top :: .top :: .top :: .top :: .top :: .top :: .top :: .top :: .top :: .top :: .top :: .top :: .top :: .top :: y62 :: y63 :: y64 :: y65 :: y66 :: y67 :: y68 :: y69 :: y70 :: y71 :: []) h15) fun r => lk1_impl_ReadSymbols env r.1 r.2.1 r.2.2)) (some (.exit 0, (y0 :: y1 :: .top :: .top :: y4 :: y5 :: y6 :: y7 :: .top :: .top :: .top :: .top :: y12 :: y13 :: y14 :: y15 :: y16 :: y17 :: y18 :: y19 :: y20 :: y21 :: v7 :: .top :: .top :: .top :: .top :: .top :: .top :: .top :: .top :: .top :: .top :: .top :: .top :: .top :: .top :: .top :: .top :: .top :: .top :: .top :: .top :: .top :: .top :: .top :: .top :: .top :: .top :: .top :: .top :: .top :: .top :: .top :: .top :: .top :: .top :: .top :: .top :: .top :: .top :: .top :: y62 :: y63 :: y64 :: y65 :: y66 :: y67 :: y68 :: y69 :: y70 :: y71 :: []), h)) := by kernel_rfl
theorem e_lk0x0_impl_ReadSymbols (env : Nat → Contract) (z0 z1 z2 z3 z4 z5 z6 z7 z8 z9 z10 z11 z12 z13 z14 z15 z16 z17 z18 z19 z20 z62 z63 z64 z65 z66 z67 z68 z69 z70 z71 : AV) (h : Heap) : lk0_impl_ReadSymbols env (.exit 0) (z0 :: z1 :: z2 :: z3 :: z4 :: z5 :: z6 :: z7 :: z8 :: z9 :: z10 :: z11 :: z12 :: z13 :: z14 :: z15 :: z16 :: z17 :: z18 :: z19 :: z20 :: .top :: .top :: .top :: .top :: .top :: .top :: .top :: .top :: .top :: .top :: .top :: .top :: .top :: .top :: .top :: .top :: .top :: .top :: .top :: .top :: .top :: .top :: .top :: .top :: .top :: .top :: .top :: .top :: .top :: .top :: .top :: .top :: .top :: .top :: .top :: .top :: .top :: .top :: .top :: .top :: .top :: z62 :: z63 :: z64 :: z65 :: z66 :: z67 :: z68 :: z69 :: z70 :: z71 :: []) h = obind2 (aCall (env n_impl_ValidSymbols) [z6] h) fun v16 h17 => obind (aUn .not v16) fun v18 => obind2 (guardB v18 false (obind2 (aCall (env n_impl_SymbolsText) [z6] h17) fun v19 h20 => obind (aCmp .neq .plain v19 z0) fun v21 => some (v21, h20)) (some (und, h17))) fun v22 h23 => obind (aPick v18 (bv true) v22) fun v24 => condB v24 (some ((.tup [nilS, (bv false)]), h23)) (some ((.tup [z6, (bv true)]), h23)) := by kernel_rfl
theorem e_lk0r_impl_ReadSymbols (env : Nat → Contract) (z0 z1 z2 z3 z4 z5 z6 z7 z8 z9 z10 z11 z12 z13 z14 z15 z16 z17 z18 z19 z20 z62 z63 z64 z65 z66 z67 z68 z69 z70 z71 : AV) (h : Heap) : lk0_impl_ReadSymbols env .ret (z0 :: z1 :: z2 :: z3 :: z4 :: z5 :: z6 :: z7 :: z8 :: z9 :: z10 :: z11 :: z12 :: z13 :: z14 :: z15 :: z16 :: z17 :: z18 :: z19 :: z20 :: .top :: .top :: .top :: .top :: .top :: .top :: .top :: .top :: .top :: .top :: .top :: .top :: .top :: .top :: .top :: .top :: .top :: .top :: .top :: .top :: .top :: .top :: .top :: .top :: .top :: .top :: .top :: .top :: .top :: .top :: .top :: .top :: .top :: .top :: .top :: .top :: .top :: .top :: .top :: .top :: .top :: z62 :: z63 :: z64 :: z65 :: z66 :: z67 :: z68 :: z69 :: z70 :: z71 :: []) h = some ((.tup [z2, z3]), h) := by kernel_rfl
theorem e_lb1_impl_ReadSymbols (env : Nat → Contract) (y0 y1 y2 y3 y4 y5 y6 y7 y8 y9 y10 y12 y13 y14 y15 y16 y17 y18 y19 y20 y21 y22 y23 y24 y25 y26 y27 y28 y29 y30 y45 y46 y47 y48 y49 y50 y51 y52 y53 y54 y55 y56 y57 y58 y59 y60 y61 y62 y63 y64 y65 y66 y67 y68 y69 y70 y71 : AV) (h : Heap) : lb1_impl_ReadSymbols env (y0 :: y1 :: y2 :: y3 :: y4 :: y5 :: y6 :: y7 :: y8 :: y9 :: y10 :: .top :: y12 :: y13 :: y14 :: y15 :: y16 :: y17 :: y18 :: y19 :: y20 :: y21 :: y22 :: y23 :: y24 :: y25 :: y26 :: y27 :: y28 :: y29 :: y30 :: .top :: .top :: .top :: .top :: .top :: .top :: .top :: .top :: .top :: .top :: .top :: .top :: .top :: .top :: y45 :: y46 :: y47 :: y48 :: y49 :: y50 :: y51 :: y52 :: y53 :: y54 :: y55 :: y56 :: y57 :: y58 :: y59 :: y60 :: y61 :: y62 :: y63 :: y64 :: y65 :: y66 :: y67 :: y68 :: y69 :: y70 :: y71 :: []) h = obind (aBin .lss y30 (iv 4)) fun v25 => condB v25 (obind (aBin .add y30 (iv 1)) fun v26 => obind (aIndexAddr 1 y9 v26 h) fun v27 => obind (aLoad false 1 v27 h) fun v28 => obind2 (aCall (env n_impl_ReadDecimal) [v28] h) fun v29 h30 => obind (aExtract v29 0) fun v31 => obind (aExtract v29 1) fun v32 => obind (aIndexArr 4 1 y10 y30) fun v33 => obind (aStore 1 v33 v31 h30) fun h34 => obind (aBin .add y30 (iv 1)) fun v35 => some (.normal, (y0 :: y1 :: y2 :: y3 :: y4 :: y5 :: y6 :: y7 :: y8 :: y9 :: y10 :: y30 :: y12 :: y13 :: y14 :: y15 :: y16 :: y17 :: y18 :: y19 :: y20 :: y21 :: y22 :: y23 :: y24 :: y25 :: y26 :: y27 :: y28 :: y29 :: v35 :: v25 :: y30 :: v29 :: y30 :: y9 :: y30 :: v26 :: v27 :: v28 :: v29 :: v31 :: v32 :: v33 :: v35 :: y45 :: y46 :: y47 :: y48 :: y49 :: y50 :: y51 :: y52 :: y53 :: y54 :: y55 :: y56 :: y57 :: y58 :: y59 :: y60 :: y61 :: y62 :: y63 :: y64 :: y65 :: y66 :: y67 :: y68 :: y69 :: y70 :: y71 :: []), h34)) (some (.exit 2, (y0 :: y1 :: y2 :: y3 :: y4 :: y5 :: y6 :: y7 :: y8 :: y9 :: y10 :: .top :: y12 :: y13 :: y14 :: y15 :: y16 :: y17 :: y18 :: y19 :: y20 :: y21 :: y22 :: y23 :: y24 :: y25 :: y26 :: y27 :: y28 :: y29 :: y30 :: v25 :: .top :: .top :: .top :: .top :: .top :: .top :: .top :: .top :: .top :: .top :: .top :: .top :: .top :: y45 :: y46 :: y47 :: y48 :: y49 :: y50 :: y51 :: y52 :: y53 :: y54 :: y55 :: y56 :: y57 :: y58 :: y59 :: y60 :: y61 :: y62 :: y63 :: y64 :: y65 :: y66 :: y67 :: y68 :: y69 :: y70 :: y71 :: []), h)) := by kernel_rfl
theorem e_lk1x2_impl_ReadSymbols (env : Nat → Contract) (z0 z1 z2 z3 z4 z5 z6 z7 z8 z9 z10 z11 z12 z13 z14 z15 z16 z17 z18 z19 z20 z21 z22 z23 z24 z25 z26 z27 z28 z29 z45 z46 z47 z48 z49 z50 z51 z52 z53 z54 z55 z56 z57 z58 z59 z60 z61 z62 z63 z64 z65 z66 z67 z68 z69 z70 z71 : AV) (h : Heap) : lk1_impl_ReadSymbols env (.exit 2) (z0 :: z1 :: z2 :: z3 :: z4 :: z5 :: z6 :: z7 :: z8 :: z9 :: z10 :: z11 :: z12 :: z13 :: z14 :: z15 :: z16 :: z17 :: z18 :: z19 :: z20 :: z21 :: z22 :: z23 :: z24 :: z25 :: z26 :: z27 :: z28 :: z29 :: .top :: .top :: .top :: .top :: .top :: .top :: .top :: .top :: .top :: .top :: .top :: .top :: .top :: .top :: .top :: z45 :: z46 :: z47 :: z48 :: z49 :: z50 :: z51 :: z52 :: z53 :: z54 :: z55 :: z56 :: z57 :: z58 :: z59 :: z60 :: z61 :: z62 :: z63 :: z64 :: z65 :: z66 :: z67 :: z68 :: z69 :: z70 :: z71 :: []) h = obind (aIndexAddr 1 z9 (iv 0) h) fun v36 => obind (aLoad false 1 v36 h) fun v37 => obind (aIndexArr 4 1 z10 (iv 0)) fun v38 => obind (aLoad false 1 v38 h) fun v39 => obind (aIndexArr 4 1 z10 (iv 1)) fun v40 => obind (aLoad false 1 v40 h) fun v41 => obind (aIndexArr 4 1 z10 (iv 2)) fun v42 => obind (aLoad false 1 v42 h) fun v43 => obind (aIndexArr 4 1 z10 (iv 3)) fun v44 => obind (aLoad false 1 v44 h) fun v45 => obind (aBuild [(iv 0), (iv 0), (iv 0), (iv 0)] [(0, 1, v39), (1, 1, v41), (2, 1, v43), (3, 1, v45)]) fun v46 => obind (aBuild [(sv ⟨#[]⟩), (iv 0), (iv 0), (iv 0), (iv 0)] [(0, 1, v37), (1, 4, v46)]) fun v47 => obind2 (aBuildSlice [(sv ⟨#[]⟩), (iv 0), (iv 0), (iv 0), (iv 0)] 1 [(0, v47)] h) fun v48 h49 => obind2 (aAppend false 5 48 z6 v48 h49) fun v50 h51 => obind (aBin .add z21 (iv 1)) fun v52 => some (.normal, (z0 :: z1 :: z2 :: z3 :: z4 :: z5 :: v50 :: z7 :: z8 :: z9 :: z10 :: z11 :: z12 :: z13 :: z14 :: z15 :: z16 :: z17 :: z18 :: z19 :: z20 :: v52 :: z22 :: z23 :: z24 :: z25 :: z26 :: z27 :: z28 :: z29 :: .top :: .top :: .top :: .top :: .top :: .top :: .top :: .top :: .top :: .top :: .top :: .top :: .top :: .top :: .top :: z6 :: z9 :: v36 :: v37 :: v38 :: v39 :: v40 :: v41 :: v42 :: v43 :: v44 :: v45 :: v46 :: v47 :: v48 :: v50 :: v52 :: z62 :: z63 :: z64 :: z65 :: z66 :: z67 :: z68 :: z69 :: z70 :: z71 :: []), h51) := by kernel_rfl
noncomputable abbrev c_laws_eqSymbolS : Code := (Tryd.f6.body).getD .skip
noncomputable abbrev nm_laws_eqSymbolS : List Bool := namedOf Tryd.f6
theorem hb_laws_eqSymbolS : HasBody Tryd.prog n_laws_eqSymbolS := ⟨Tryd.f6, _, Tryd.func6, rfl, by decide⟩
abbrev hm0_laws_eqSymbolS : List Bool := [true, true, true, true, false, true, true, true, true, true, true, false, false, false, false, false, false, false, false, false, false, false, false, false, false, false, false]
abbrev xm0_laws_eqSymbolS : List Bool := [true, true, true, true, true, true, true, true, true, true, true, false, false, false, false, false, false, false, false, false, false, false, false, false, false, false, false]
noncomputable def lb0_laws_eqSymbolS (env : Nat → Contract) : TM → Heap → Option Res := fun tm h => denC Tryd.prog env nm_laws_eqSymbolS (atrrlrll c_laws_eqSymbolS) Res tm h fun e tm h => some (e, tm, h)
noncomputable def lk0_laws_eqSymbolS (env : Nat → Contract) : AX → TM → Heap → Option (AV × Heap) := (kBlock 0 (kSeq Tryd.prog env nm_laws_eqSymbolS (atrrr c_laws_eqSymbolS) _ (kRet Tryd.prog Tryd.f6.results.toList)))
theorem e_laws_eqSymbolS (env : Nat → Contract) (x0 x1 : AV) (h : Heap) : denFn Tryd.prog env n_laws_eqSymbolS [x0, x1] h = obind (aLenK .slice x0) fun v1 => obind (aLenK .slice x1) fun v2 => obind (aCmp .neq .plain v1 v2) fun v3 => condB v3 (some ((bv false), h)) (obind (loopP hm0_laws_eqSymbolS xm0_laws_eqSymbolS (lb0_laws_eqSymbolS env) [x0, x1, und, und, .top, (iv 0), x0, v1, x1, v2, v3, .top, .top, .top, .top, .top, .top, .top, .top, .top, .top, .top, .top, .top, .top, .top, .top] h) fun r => lk0_laws_eqSymbolS env r.1 r.2.1 r.2.2) := by kernel_rfl
theorem e_lb0_laws_eqSymbolS (env : Nat → Contract) (y0 y1 y2 y3 y5 y6 y7 y8 y9 y10 : AV) (h : Heap) : lb0_laws_eqSymbolS env [y0, y1, y2, y3, .top, y5, y6, y7, y8, y9, y10, .top, .top, .top, .top, .top, .top, .top, .top, .top, .top, .top, .top, .top, .top, .top, .top] h = obind (aLenK .slice y0) fun v4 => obind (aBin .lss y5 v4) fun v5 => condB v5 (obind (aIndexAddr 5 y0 y5 h) fun v6 => obind (aLoad true 5 v6 h) fun v7 => obind (aIndexAddr 5 y1 y5 h) fun v8 => obind (aLoad true 5 v8 h) fun v9 => obind2 (aCallQ (env n_laws_eqSymbol) [v7, v9] h) fun v10 h11 => obind (aUn .not v10) fun v12 => condB v12 (some (.ret, [y0, y1, y2, y3, (bv false), y5, y6, y7, y8, y9, y10, y5, y0, v4, v5, .top, .top, y0, y5, v6, v7, y1, y5, v8, v9, v10, v12], h11)) (obind (aBin .add y5 (iv 1)) fun v13 => some (.normal, [y0, y1, y2, y3, .top, v13, y6, y7, y8, y9, y10, y5, y0, v4, v5, y5, v13, y0, y5, v6, v7, y1, y5, v8, v9, v10, v12], h11))) (some (.exit 0, [y0, y1, y2, y3, .top, y5, y6, y7, y8, y9, y10, y5, y0, v4, v5, .top, .top, .top, .top, .top, .top, .top, .top, .top, .top, .top, .top], h)) := by kernel_rfl
theorem e_lk0x0_laws_eqSymbolS (env : Nat → Contract) (z0 z1 z2 z3 z4 z5 z6 z7 z8 z9 z10 : AV) (h : Heap) : lk0_laws_eqSymbolS env (.exit 0) [z0, z1, z2, z3, z4, z5, z6, z7, z8, z9, z10, .top, .top, .top, .top, .top, .top, .top, .top, .top, .top, .top, .top, .top, .top, .top, .top] h = some ((bv true), h) := by kernel_rfl
theorem e_lk0r_laws_eqSymbolS (env : Nat → Contract) (z0 z1 z2 z3 z4 z5 z6 z7 z8 z9 z10 : AV) (h : Heap) : lk0_laws_eqSymbolS env .ret [z0, z1, z2, z3, z4, z5, z6, z7, z8, z9, z10, .top, .top, .top, .top, .top, .top, .top, .top, .top, .top, .top, .top, .top, .top, .top, .top] h = some (z4, h) := by kernel_rfl
noncomputable abbrev c_laws_markSymbolS : Code := (Tryd.f7.body).getD .skip
noncomputable abbrev nm_laws_markSymbolS : List Bool := namedOf Tryd.f7
theorem hb_laws_markSymbolS : HasBody Tryd.prog n_laws_markSymbolS := ⟨Tryd.f7, _, Tryd.func7, rfl, by decide⟩
abbrev hm0_laws_markSymbolS : List Bool := [true, true, true, true, true, true, false, false, false, false, false, false, false, false, false, false, false, false, false, false, false, false, false, false, false, false, false, false, false, false, false, false, false, false, false, false, false, false, false, false, false, false, false, false, false, false, false, false, false, false, false, false, true]
abbrev xm0_laws_markSymbolS : List Bool := [true, true, true, true, true, true, false, false, false, false, false, false, false, false, false, false, false, false, false, false, false, false, false, false, false, false, false, false, false, false, false, false, false, false, false, false, false, false, false, false, false, false, false, false, false, false, false, false, false, false, false, false, true]
noncomputable def lb0_laws_markSymbolS (env : Nat → Contract) : TM → Heap → Option Res := fun tm h => denC Tryd.prog env nm_laws_markSymbolS (atrlrll c_laws_markSymbolS) Res tm h fun e tm h => some (e, tm, h)
noncomputable def lk0_laws_markSymbolS (env : Nat → Contract) : AX → TM → Heap → Option (AV × Heap) := (kBlock 0 (kSeq Tryd.prog env nm_laws_markSymbolS (atrr c_laws_markSymbolS) _ (kRet Tryd.prog Tryd.f7.results.toList)))
theorem e_laws_markSymbolS (env : Nat → Contract) (x0 x1 : AV) (h : Heap) : denFn Tryd.prog env n_laws_markSymbolS [x0, x1] h = obind (loopP hm0_laws_markSymbolS xm0_laws_markSymbolS (lb0_laws_markSymbolS env) [x0, x1, und, und, (iv 0), (iv 0), .top, .top, .top, .top, .top, .top, .top, .top, .top, .top, .top, .top, .top, .top, .top, .top, .top, .top, .top, .top, .top, .top, .top, .top, .top, .top, .top, .top, .top, .top, .top, .top, .top, .top, .top, .top, .top, .top, .top, .top, .top, .top, .top, .top, .top, .top, und] h) fun r => lk0_laws_markSymbolS env r.1 r.2.1 r.2.2 := by kernel_rfl
theorem e_lb0_laws_markSymbolS (env : Nat → Contract) (y0 y1 y2 y3 y4 y5 y52 : AV) (h : Heap) : lb0_laws_markSymbolS env [y0, y1, y2, y3, y4, y5, .top, .top, .top, .top, .top, .top, .top, .top, .top, .top, .top, .top, .top, .top, .top, .top, .top, .top, .top, .top, .top, .top, .top, .top, .top, .top, .top, .top, .top, .top, .top, .top, .top, .top, .top, .top, .top, .top, .top, .top, .top, .top, .top, .top, .top, .top, y52] h = obind (aLenK .slice y0) fun v1 => obind (aBin .lss y5 v1) fun v2 => condB v2 (obind2 (aCall (env n_laws_markText) [y1] h) fun v3 h4 => obind (aIndexAddr 5 y0 y5 h4) fun v5 => obind (aFieldAddr 0 v5) fun v6 => obind (aStore 1 v6 v3 h4) fun h7 => obind (aBin .add y1 (iv 1)) fun v8 => obind (aIndexAddr 5 y0 y5 h7) fun v9 => obind (aFieldAddr 1 v9) fun v10 => obind (aFieldAddr 0 v10) fun v11 => obind (aStore 1 v11 v8 h7) fun h12 => obind (aBin .add v8 (iv 1)) fun v13 => obind (aIndexAddr 5 y0 y5 h12) fun v14 => obind (aFieldAddr 1 v14) fun v15 => obind (aFieldAddr 1 v15) fun v16 => obind (aStore 1 v16 v13 h12) fun h17 => obind (aBin .add v13 (iv 1)) fun v18 => obind (aIndexAddr 5 y0 y5 h17) fun v19 => obind (aFieldAddr 1 v19) fun v20 => obind (aFieldAddr 2 v20) fun v21 => obind (aStore 1 v21 v18 h17) fun h22 => obind (aBin .add v18 (iv 1)) fun v23 => obind (aIndexAddr 5 y0 y5 h22) fun v24 => obind (aFieldAddr 1 v24) fun v25 => obind (aFieldAddr 3 v25) fun v26 => obind (aStore 1 v26 v23 h22) fun h27 => obind (aBin .add v23 (iv 1)) fun v28 => obind (aBin .add y5 (iv 1)) fun v29 => some (.normal, [y0, v28, y2, y3, y4, v29, y5, y0, v1, v2, y5, v29, y0, y5, y1, v3, v5, v6, y1, v8, y0, y5, v8, v9, v10, v11, v8, v13, y0, y5, v13, v14, v15, v16, v13, v18, y0, y5, v18, v19, v20, v21, v18, v23, y0, y5, v23, v24, v25, v26, v23, v28, y52], h27)) (some (.exit 0, [y0, y1, y2, y3, y4, y5, y5, y0, v1, v2, .top, .top, .top, .top, .top, .top, .top, .top, .top, .top, .top, .top, .top, .top, .top, .top, .top, .top, .top, .top, .top, .top, .top, .top, .top, .top, .top, .top, .top, .top, .top, .top, .top, .top, .top, .top, .top, .top, .top, .top, .top, .top, y52], h)) := by kernel_rfl
theorem e_lk0x0_laws_markSymbolS (env : Nat → Contract) (z0 z1 z2 z3 z4 z5 z52 : AV) (h : Heap) : lk0_laws_markSymbolS env (.exit 0) [z0, z1, z2, z3, z4, z5, .top, .top, .top, .top, .top, .top, .top, .top, .top, .top, .top, .top, .top, .top, .top, .top, .top, .top, .top, .top, .top, .top, .top, .top, .top, .top, .top, .top, .top, .top, .top, .top, .top, .top, .top, .top, .top, .top, .top, .top, .top, .top, .top, .top, .top, .top, z52] h = some (z1, h) := by kernel_rfl
noncomputable abbrev c_laws_heldSymbolS : Code := (Tryd.f8.body).getD .skip
noncomputable abbrev nm_laws_heldSymbolS : List Bool := namedOf Tryd.f8
theorem hb_laws_heldSymbolS : HasBody Tryd.prog n_laws_heldSymbolS := ⟨Tryd.f8, _, Tryd.func8, rfl, by decide⟩
abbrev hm0_laws_heldSymbolS : List Bool := (true :: true :: true :: true :: false :: true :: false :: false :: false :: false :: false :: false :: false :: false :: false :: false :: false :: false :: false :: false :: false :: false :: false :: false :: false :: false :: false :: false :: false :: false :: false :: false :: false :: false :: false :: false :: false :: false :: false :: false :: false :: false :: false :: false :: false :: false :: false :: false :: false :: false :: false :: false :: false :: false :: false :: false :: false :: false :: false :: false :: false :: false :: true :: [])
abbrev xm0_laws_heldSymbolS : List Bool := (true :: true :: true :: true :: true :: true :: false :: false :: false :: false :: false :: false :: false :: false :: false :: false :: false :: false :: false :: false :: false :: false :: false :: false :: false :: false :: false :: false :: false :: false :: false :: false :: false :: false :: false :: false :: false :: false :: false :: false :: false :: false :: false :: false :: false :: false :: false :: false :: false :: false :: false :: false :: false :: false :: false :: false :: false :: false :: false :: false :: false :: false :: true :: [])
noncomputable def lb0_laws_heldSymbolS (env : Nat → Contract) : TM → Heap → Option Res := fun tm h => denC Tryd.prog env nm_laws_heldSymbolS (atrlrll c_laws_heldSymbolS) Res tm h fun e tm h => some (e, tm, h)
noncomputable def lk0_laws_heldSymbolS (env : Nat → Contract) : AX → TM → Heap → Option (AV × Heap) := (kBlock 0 (kSeq Tryd.prog env nm_laws_heldSymbolS (atrr c_laws_heldSymbolS) _ (kRet Tryd.prog Tryd.f8.results.toList)))
theorem e_laws_heldSymbolS (env : Nat → Contract) (x0 x1 : AV) (h : Heap) : denFn Tryd.prog env n_laws_heldSymbolS [x0, x1] h = obind (loopP hm0_laws_heldSymbolS xm0_laws_heldSymbolS (lb0_laws_heldSymbolS env) (x0 :: x1 :: und :: und :: .top :: (iv 0) :: .top :: .top :: .top :: .top :: .top :: .top :: .top :: .top :: .top :: .top :: .top :: .top :: .top :: .top :: .top :: .top :: .top :: .top :: .top :: .top :: .top :: .top :: .top :: .top :: .top :: .top :: .top :: .top :: .top :: .top :: .top :: .top :: .top :: .top :: .top :: .top :: .top :: .top :: .top :: .top :: .top :: .top :: .top :: .top :: .top :: .top :: .top :: .top :: .top :: .top :: .top :: .top :: .top :: .top :: .top :: .top :: und :: []) h) fun r => lk0_laws_heldSymbolS env r.1 r.2.1 r.2.2 := by kernel_rfl
theorem e_lb0_laws_heldSymbolS (env : Nat → Contract) (y0 y1 y2 y3 y5 y62 : AV) (h : Heap) : lb0_laws_heldSymbolS env (y0 :: y1 :: y2 :: y3 :: .top :: y5 :: .top :: .top :: .top :: .top :: .top :: .top :: .top :: .top :: .top :: .top :: .top :: .top :: .top :: .top :: .top :: .top :: .top :: .top :: .top :: .top :: .top :: .top :: .top :: .top :: .top :: .top :: .top :: .top :: .top :: .top :: .top :: .top :: .top :: .top :: .top :: .top :: .top :: .top :: .top :: .top :: .top :: .top :: .top :: .top :: .top :: .top :: .top :: .top :: .top :: .top :: .top :: .top :: .top :: .top :: .top :: .top :: y62 :: []) h = obind (aLenK .slice y0) fun v1 => obind (aBin .lss y5 v1) fun v2 => condB v2 (obind (aIndexAddr 5 y0 y5 h) fun v3 => obind (aFieldAddr 0 v3) fun v4 => obind (aLoad false 1 v4 h) fun v5 => obind2 (aCallQ (env n_laws_markText) [y1] h) fun v6 h7 => obind (aCmp .neq .plain v5 v6) fun v8 => condB v8 (some (.ret, (y0 :: y1 :: y2 :: y3 :: (iv (-1)) :: y5 :: y5 :: y0 :: v1 :: v2 :: .top :: .top :: y0 :: y5 :: v3 :: v4 :: v5 :: y1 :: v6 :: v8 :: .top :: .top :: .top :: .top :: .top :: .top :: .top :: .top :: .top :: .top :: .top :: .top :: .top :: .top :: .top :: .top :: .top :: .top :: .top :: .top :: .top :: .top :: .top :: .top :: .top :: .top :: .top :: .top :: .top :: .top :: .top :: .top :: .top :: .top :: .top :: .top :: .top :: .top :: .top :: .top :: .top :: .top :: y62 :: []), h7)) (obind (aBin .add y1 (iv 1)) fun v9 => obind (aIndexAddr 5 y0 y5 h7) fun v10 => obind (aFieldAddr 1 v10) fun v11 => obind (aFieldAddr 0 v11) fun v12 => obind (aLoad false 1 v12 h7) fun v13 => obind (aCmp .neq .plain v13 v9) fun v14 => condB v14 (some (.ret, (y0 :: v9 :: y2 :: y3 :: (iv (-1)) :: y5 :: y5 :: y0 :: v1 :: v2 :: .top :: .top :: y0 :: y5 :: v3 :: v4 :: v5 :: y1 :: v6 :: v8 :: y1 :: v9 :: y0 :: y5 :: v10 :: v11 :: v12 :: v13 :: v9 :: v14 :: .top :: .top :: .top :: .top :: .top :: .top :: .top :: .top :: .top :: .top :: .top :: .top :: .top :: .top :: .top :: .top :: .top :: .top :: .top :: .top :: .top :: .top :: .top :: .top :: .top :: .top :: .top :: .top :: .top :: .top :: .top :: .top :: y62 :: []), h7)) (obind (aBin .add v9 (iv 1)) fun v15 => obind (aIndexAddr 5 y0 y5 h7) fun v16 => obind (aFieldAddr 1 v16) fun v17 => obind (aFieldAddr 1 v17) fun v18 => obind (aLoad false 1 v18 h7) fun v19 => obind (aCmp .neq .plain v19 v15) fun v20 => condB v20 (some (.ret, (y0 :: v15 :: y2 :: y3 :: (iv (-1)) :: y5 :: y5 :: y0 :: v1 :: v2 :: .top :: .top :: y0 :: y5 :: v3 :: v4 :: v5 :: y1 :: v6 :: v8 :: y1 :: v9 :: y0 :: y5 :: v10 :: v11 :: v12 :: v13 :: v9 :: v14 :: v9 :: v15 :: y0 :: y5 :: v16 :: v17 :: v18 :: v19 :: v15 :: v20 :: .top :: .top :: .top :: .top :: .top :: .top :: .top :: .top :: .top :: .top :: .top :: .top :: .top :: .top :: .top :: .top :: .top :: .top :: .top :: .top :: .top :: .top :: y62 :: []), h7)) (obind (aBin .add v15 (iv 1)) fun v21 => obind (aIndexAddr 5 y0 y5 h7) fun v22 => obind (aFieldAddr 1 v22) fun v23 => obind (aFieldAddr 2 v23) fun v24 => obind (aLoad false 1 v24 h7) fun v25 => obind (aCmp .neq .plain v25 v21) fun v26 => condB v26 (some (.ret, (y0 :: v21 :: y2 :: y3 :: (iv (-1)) :: y5 :: y5 :: y0 :: v1 :: v2 :: .top :: .top :: y0 :: y5 :: v3 :: v4 :: v5 :: y1 :: v6 :: v8 :: y1 :: v9 :: y0 :: y5 :: v10 :: v11 :: v12 :: v13 :: v9 :: v14 :: v9 :: v15 :: y0 :: y5 :: v16 :: v17 :: v18 :: v19 :: v15 :: v20 :: v15 :: v21 :: y0 :: y5 :: v22 :: v23 :: v24 :: v25 :: v21 :: v26 :: .top :: .top :: .top :: .top :: .top :: .top :: .top :: .top :: .top :: .top :: .top :: .top :: y62 :: []), h7)) (obind (aBin .add v21 (iv 1)) fun v27 => obind (aIndexAddr 5 y0 y5 h7) fun v28 => obind (aFieldAddr 1 v28) fun v29 => obind (aFieldAddr 3 v29) fun v30 => obind (aLoad false 1 v30 h7) fun v31 => obind (aCmp .neq .plain v31 v27) fun v32 => condB v32 (some (.ret, (y0 :: v27 :: y2 :: y3 :: (iv (-1)) :: y5 :: y5 :: y0 :: v1 :: v2 :: .top :: .top :: y0 :: y5 :: v3 :: v4 :: v5 :: y1 :: v6 :: v8 :: y1 :: v9 :: y0 :: y5 :: v10 :: v11 :: v12 :: v13 :: v9 :: v14 :: v9 :: v15 :: y0 :: y5 :: v16 :: v17 :: v18 :: v19 :: v15 :: v20 :: v15 :: v21 :: y0 :: y5 :: v22 :: v23 :: v24 :: v25 :: v21 :: v26 :: v21 :: v27 :: y0 :: y5 :: v28 :: v29 :: v30 :: v31 :: v27 :: v32 :: .top :: .top :: y62 :: []), h7)) (obind (aBin .add v27 (iv 1)) fun v33 => obind (aBin .add y5 (iv 1)) fun v34 => some (.normal, (y0 :: v33 :: y2 :: y3 :: .top :: v34 :: y5 :: y0 :: v1 :: v2 :: y5 :: v34 :: y0 :: y5 :: v3 :: v4 :: v5 :: y1 :: v6 :: v8 :: y1 :: v9 :: y0 :: y5 :: v10 :: v11 :: v12 :: v13 :: v9 :: v14 :: v9 :: v15 :: y0 :: y5 :: v16 :: v17 :: v18 :: v19 :: v15 :: v20 :: v15 :: v21 :: y0 :: y5 :: v22 :: v23 :: v24 :: v25 :: v21 :: v26 :: v21 :: v27 :: y0 :: y5 :: v28 :: v29 :: v30 :: v31 :: v27 :: v32 :: v27 :: v33 :: y62 :: []), h7))))))) (some (.exit 0, (y0 :: y1 :: y2 :: y3 :: .top :: y5 :: y5 :: y0 :: v1 :: v2 :: .top :: .top :: .top :: .top :: .top :: .top :: .top :: .top :: .top :: .top :: .top :: .top :: .top :: .top :: .top :: .top :: .top :: .top :: .top :: .top :: .top :: .top :: .top :: .top :: .top :: .top :: .top :: .top :: .top :: .top :: .top :: .top :: .top :: .top :: .top :: .top :: .top :: .top :: .top :: .top :: .top :: .top :: .top :: .top :: .top :: .top :: .top :: .top :: .top :: .top :: .top :: .top :: y62 :: []), h)) := by kernel_rfl
theorem e_lk0x0_laws_heldSymbolS (env : Nat → Contract) (z0 z1 z2 z3 z4 z5 z62 : AV) (h : Heap) : lk0_laws_heldSymbolS env (.exit 0) (z0 :: z1 :: z2 :: z3 :: z4 :: z5 :: .top :: .top :: .top :: .top :: .top :: .top :: .top :: .top :: .top :: .top :: .top :: .top :: .top :: .top :: .top :: .top :: .top :: .top :: .top :: .top :: .top :: .top :: .top :: .top :: .top :: .top :: .top :: .top :: .top :: .top :: .top :: .top :: .top :: .top :: .top :: .top :: .top :: .top :: .top :: .top :: .top :: .top :: .top :: .top :: .top :: .top :: .top :: .top :: .top :: .top :: .top :: .top :: .top :: .top :: .top :: .top :: z62 :: []) h = some (z1, h) := by kernel_rfl
theorem e_lk0r_laws_heldSymbolS (env : Nat → Contract) (z0 z1 z2 z3 z4 z5 z62 : AV) (h : Heap) : lk0_laws_heldSymbolS env .ret (z0 :: z1 :: z2 :: z3 :: z4 :: z5 :: .top :: .top :: .top :: .top :: .top :: .top :: .top :: .top :: .top :: .top :: .top :: .top :: .top :: .top :: .top :: .top :: .top :: .top :: .top :: .top :: .top :: .top :: .top :: .top :: .top :: .top :: .top :: .top :: .top :: .top :: .top :: .top :: .top :: .top :: .top :: .top :: .top :: .top :: .top :: .top :: .top :: .top :: .top :: .top :: .top :: .top :: .top :: .top :: .top :: .top :: .top :: .top :: .top :: .top :: .top :: .top :: z62 :: []) h = some (z4, h) := by kernel_rfl
noncomputable abbrev c_spec_l01Split : Code := (Tryd.f9.body).getD .skip
noncomputable abbrev nm_spec_l01Split : List Bool := namedOf Tryd.f9
theorem hb_spec_l01Split : HasBody Tryd.prog n_spec_l01Split := ⟨Tryd.f9, _, Tryd.func9, rfl, by decide⟩
abbrev hm0_spec_l01Split : List Bool := [true, true, true, true, true, true, true, true, true, false, false, false, false, false, false, false, false, false, false, false, false, false, false, false, false, false, false, false, false, true, true, true, true, true, true]
abbrev xm0_spec_l01Split : List Bool := [true, true, true, true, true, true, true, true, true, false, false, false, false, false, false, false, false, false, false, false, false, false, false, false, false, false, false, false, false, true, true, true, true, true, true]
noncomputable def lb0_spec_l01Split (env : Nat → Contract) : TM → Heap → Option Res := fun tm h => denC Tryd.prog env nm_spec_l01Split (atrrrlrll c_spec_l01Split) Res tm h fun e tm h => some (e, tm, h)
noncomputable def lk0_spec_l01Split (env : Nat → Contract) : AX → TM → Heap → Option (AV × Heap) := (kBlock 0 (kSeq Tryd.prog env nm_spec_l01Split (atrrrr c_spec_l01Split) _ (kRet Tryd.prog Tryd.f9.results.toList)))
theorem e_spec_l01Split (env : Nat → Contract) (x0 x1 : AV) (h : Heap) : denFn Tryd.prog env n_spec_l01Split [x0, x1] h = obind2 (aBuildSlice [(sv ⟨#[]⟩)] 0 [] h) fun v1 h2 => obind (loopP hm0_spec_l01Split xm0_spec_l01Split (lb0_spec_l01Split env) [x0, x1, und, und, nilS, v1, (iv 0), (iv 0), v1, .top, .top, .top, .top, .top, .top, .top, .top, .top, .top, .top, .top, .top, .top, .top, .top, .top, .top, .top, .top, und, und, und, und, und, und] h2) fun r => lk0_spec_l01Split env r.1 r.2.1 r.2.2 := by kernel_rfl
theorem e_lb0_spec_l01Split (env : Nat → Contract) (y0 y1 y2 y3 y4 y5 y6 y7 y8 y29 y30 y31 y32 y33 y34 : AV) (h : Heap) : lb0_spec_l01Split env [y0, y1, y2, y3, y4, y5, y6, y7, y8, .top, .top, .top, .top, .top, .top, .top, .top, .top, .top, .top, .top, .top, .top, .top, .top, .top, .top, .top, .top, y29, y30, y31, y32, y33, y34] h = obind (aLenK .str y0) fun v3 => obind (aBin .lss y7 v3) fun v4 => condB v4 (obind (aIndexStr y0 y7) fun v5 => obind (aCmp .eql .plain v5 y1) fun v6 => condB v6 (obind (aSliceStr y0 (some y6) (some y7)) fun v7 => obind2 (aBuildSlice [(sv ⟨#[]⟩)] 1 [(0, v7)] h) fun v8 h9 => obind2 (aAppend false 1 16 y5 v8 h9) fun v10 h11 => obind (aBin .add y7 (iv 1)) fun v12 => obind (aBin .add y7 (iv 1)) fun v13 => some (.normal, [y0, y1, y2, y3, y4, v10, v12, v13, y8, y7, y0, v3, v4, y7, v13, y0, y7, v5, y1, v6, y5, y0, y6, y7, v7, v8, v10, y7, v12, y29, y30, y31, y32, y33, y34], h11)) (obind (aBin .add y7 (iv 1)) fun v14 => some (.normal, [y0, y1, y2, y3, y4, y5, y6, v14, y8, y7, y0, v3, v4, y7, v14, y0, y7, v5, y1, v6, .top, .top, .top, .top, .top, .top, .top, .top, .top, y29, y30, y31, y32, y33, y34], h))) (some (.exit 0, [y0, y1, y2, y3, y4, y5, y6, y7, y8, y7, y0, v3, v4, .top, .top, .top, .top, .top, .top, .top, .top, .top, .top, .top, .top, .top, .top, .top, .top, y29, y30, y31, y32, y33, y34], h)) := by kernel_rfl
theorem e_lk0x0_spec_l01Split (env : Nat → Contract) (z0 z1 z2 z3 z4 z5 z6 z7 z8 z29 z30 z31 z32 z33 z34 : AV) (h : Heap) : lk0_spec_l01Split env (.exit 0) [z0, z1, z2, z3, z4, z5, z6, z7, z8, .top, .top, .top, .top, .top, .top, .top, .top, .top, .top, .top, .top, .top, .top, .top, .top, .top, .top, .top, .top, z29, z30, z31, z32, z33, z34] h = obind (aSliceStr z0 (some z6) none) fun v15 => obind2 (aBuildSlice [(sv ⟨#[]⟩)] 1 [(0, v15)] h) fun v16 h17 => obind2 (aAppend false 1 16 z5 v16 h17) fun v18 h19 => some (v18, h19) := by kernel_rfl
theorem hb_spec_l20Line : HasBody Tryd.prog n_spec_l20Line := ⟨Tryd.f10, _, Tryd.func10, rfl, by decide⟩
theorem e_spec_l20Line (env : Nat → Contract) (x0 : AV) (h : Heap) : denFn Tryd.prog env n_spec_l20Line [x0] h = obind2 (aBox [(sv ⟨#[]⟩), (iv 0), (iv 0), (iv 0), (iv 0)] h) fun v1 h2 => obind2 (aCall (env n_spec_l01Split) [x0, (.sc (.int .u8 32))] h2) fun v3 h4 => obind (aLenK .slice v3) fun v5 => obind (aCmp .neq .plain v5 (iv 5)) fun v6 => condB v6 (obind (aBuild [(sv ⟨#[]⟩), (iv 0), (iv 0), (iv 0), (iv 0)] []) fun v7 => obind (aStore 5 v1 v7 h4) fun h8 => retL [.c true 5 v1, .v (bv false)] h8) (obind (aIndexAddr 1 v3 (iv 1) h4) fun v9 => obind (aLoad false 1 v9 h4) fun v10 => obind2 (aCall (env n_spec_l01Number) [v10] h4) fun v11 h12 => obind (aExtract v11 0) fun v13 => obind (aExtract v11 1) fun v14 => obind (aIndexAddr 1 v3 (iv 2) h12) fun v15 => obind (aLoad false 1 v15 h12) fun v16 => obind2 (aCall (env n_spec_l01Number) [v16] h12) fun v17 h18 => obind (aExtract v17 0) fun v19 => obind (aExtract v17 1) fun v20 => obind (aIndexAddr 1 v3 (iv 3) h18) fun v21 => obind (aLoad false 1 v21 h18) fun v22 => obind2 (aCall (env n_spec_l01Number) [v22] h18) fun v23 h24 => obind (aExtract v23 0) fun v25 => obind (aExtract v23 1) fun v26 => obind (aIndexAddr 1 v3 (iv 4) h24) fun v27 => obind (aLoad false 1 v27 h24) fun v28 => obind2 (aCall (env n_spec_l01Number) [v28] h24) fun v29 h30 => obind (aExtract v29 0) fun v31 => obind (aExtract v29 1) fun v32 => obind (aIndexAddr 1 v3 (iv 0) h30) fun v33 => obind (aLoad false 1 v33 h30) fun v34 => obind (aBuild [(iv 0), (iv 0), (iv 0), (iv 0)] [(0, 1, v13), (1, 1, v19), (2, 1, v25), (3, 1, v31)]) fun v35 => obind (aBuild [(sv ⟨#[]⟩), (iv 0), (iv 0), (iv 0), (iv 0)] [(0, 1, v34), (1, 4, v35)]) fun v36 => obind2 (guardB v14 true (some (v20, h30)) (some (und, h30))) fun v37 h38 => obind (aPick v14 v37 (bv false)) fun v39 => obind2 (guardB v39 true (some (v26, h38)) (some (und, h38))) fun v40 h41 => obind (aPick v39 v40 (bv false)) fun v42 => obind2 (guardB v42 true (some (v32, h41)) (some (und, h41))) fun v43 h44 => obind (aPick v42 v43 (bv false)) fun v45 => obind (aStore 5 v1 v36 h44) fun h46 => retL [.c true 5 v1, .v v45] h46) := by kernel_rfl
noncomputable abbrev c_spec_l20Ok : Code := (Tryd.f11.body).getD .skip
noncomputable abbrev nm_spec_l20Ok : List Bool := namedOf Tryd.f11
theorem hb_spec_l20Ok : HasBody Tryd.prog n_spec_l20Ok := ⟨Tryd.f11, _, Tryd.func11, rfl, by decide⟩
abbrev hm0_spec_l20Ok : List Bool := [true, true, false, true, false, false, false, false, false, false, false, false, false, false, false, false, false, false, false, false, false, false, false, false, false, false, true, true, true]
abbrev xm0_spec_l20Ok : List Bool := [true, true, true, true, false, false, false, false, false, false, false, false, false, false, false, false, false, false, false, false, false, false, false, false, false, false, true, true, true]
noncomputable def lb0_spec_l20Ok (env : Nat → Contract) : TM → Heap → Option Res := fun tm h => denC Tryd.prog env nm_spec_l20Ok (atrlrll c_spec_l20Ok) Res tm h fun e tm h => some (e, tm, h)
noncomputable def lk0_spec_l20Ok (env : Nat → Contract) : AX → TM → Heap → Option (AV × Heap) := (kBlock 0 (kSeq Tryd.prog env nm_spec_l20Ok (atrr c_spec_l20Ok) _ (kRet Tryd.prog Tryd.f11.results.toList)))
theorem e_spec_l20Ok (env : Nat → Contract) (x0 : AV) (h : Heap) : denFn Tryd.prog env n_spec_l20Ok [x0] h = obind (loopP hm0_spec_l20Ok xm0_spec_l20Ok (lb0_spec_l20Ok env) [x0, und, .top, (iv 0), .top, .top, .top, .top, .top, .top, .top, .top, .top, .top, .top, .top, .top, .top, .top, .top, .top, .top, .top, .top, .top, .top, und, und, und] h) fun r => lk0_spec_l20Ok env r.1 r.2.1 r.2.2 := by kernel_rfl
theorem e_lb0_spec_l20Ok (env : Nat → Contract) (y0 y1 y3 y26 y27 y28 : AV) (h : Heap) : lb0_spec_l20Ok env [y0, y1, .top, y3, .top, .top, .top, .top, .top, .top, .top, .top, .top, .top, .top, .top, .top, .top, .top, .top, .top, .top, .top, .top, .top, .top, y26, y27, y28] h = obind (aLenK .slice y0) fun v1 => obind (aBin .lss y3 v1) fun v2 => condB v2 (obind (aIndexAddr 5 y0 y3 h) fun v3 => obind (aFieldAddr 0 v3) fun v4 => obind (aLoad false 1 v4 h) fun v5 => obind2 (aCall (env n_spec_IsLabel) [v5] h) fun v6 h7 => obind (aUn .not v6) fun v8 => obind2 (guardB v8 false (obind (aIndexAddr 5 y0 y3 h7) fun v9 => obind (aFieldAddr 1 v9) fun v10 => obind (aLoad true 4 v10 h7) fun v11 => obind2 (aCall (env n_spec_l02Box) [v11] h7) fun v12 h13 => obind (aUn .not v12) fun v14 => some (v14, h13)) (some (und, h7))) fun v15 h16 => obind (aPick v8 (bv true) v15) fun v17 => condB v17 (some (.ret, [y0, y1, (bv false), y3, y3, y0, v1, v2, .top, .top, y0, y3, v3, v4, v5, v6, v8, v8, .top, .top, .top, .top, .top, .top, v15, v17, y26, y27, y28], h16)) (obind (aBin .add y3 (iv 1)) fun v18 => some (.normal, [y0, y1, .top, v18, y3, y0, v1, v2, y3, v18, y0, y3, v3, v4, v5, v6, v8, v8, .top, .top, .top, .top, .top, .top, v15, v17, y26, y27, y28], h16))) (some (.exit 0, [y0, y1, .top, y3, y3, y0, v1, v2, .top, .top, .top, .top, .top, .top, .top, .top, .top, .top, .top, .top, .top, .top, .top, .top, .top, .top, y26, y27, y28], h)) := by kernel_rfl
theorem e_lk0x0_spec_l20Ok (env : Nat → Contract) (z0 z1 z2 z3 z26 z27 z28 : AV) (h : Heap) : lk0_spec_l20Ok env (.exit 0) [z0, z1, z2, z3, .top, .top, .top, .top, .top, .top, .top, .top, .top, .top, .top, .top, .top, .top, .top, .top, .top, .top, .top, .top, .top, .top, z26, z27, z28] h = obind (aLenK .slice z0) fun v19 => obind (aBin .leq v19 (iv 8)) fun v20 => some (v20, h) := by kernel_rfl
theorem e_lk0r_spec_l20Ok (env : Nat → Contract) (z0 z1 z2 z3 z26 z27 z28 : AV) (h : Heap) : lk0_spec_l20Ok env .ret [z0, z1, z2, z3, .top, .top, .top, .top, .top, .top, .top, .top, .top, .top, .top, .top, .top, .top, .top, .top, .top, .top, .top, .top, .top, .top, z26, z27, z28] h = some (z2, h) := by kernel_rfl
theorem hb_impl_linesOf : HasBody Tryd.prog n_impl_linesOf := ⟨Tryd.f12, _, Tryd.func12, rfl, by decide⟩
theorem e_impl_linesOf (env : Nat → Contract) (x0 : AV) (h : Heap) : denFn Tryd.prog env n_impl_linesOf [x0] h = obind (aCmp .eql .plain x0 (sv ⟨#[]⟩)) fun v1 => condB v1 (some ((.tup [nilS, (bv true)]), h)) (obind2 (aCall (env n_strings_HasSuffix) [x0, (sv ⟨#[10]⟩)] h) fun v2 h3 => obind (aUn .not v2) fun v4 => condB v4 (some ((.tup [nilS, (bv false)]), h3)) (obind2 (aCall (env n_strings_TrimSuffix) [x0, (sv ⟨#[10]⟩)] h3) fun v5 h6 => obind2 (aCall (env n_strings_Split) [v5, (sv ⟨#[10]⟩)] h6) fun v7 h8 => some ((.tup [v7, (bv true)]), h8))) := by kernel_rfl
theorem hb_impl_wordsOf : HasBody Tryd.prog n_impl_wordsOf := ⟨Tryd.f13, _, Tryd.func13, rfl, by decide⟩
theorem e_impl_wordsOf (env : Nat → Contract) (x0 : AV) (h : Heap) : denFn Tryd.prog env n_impl_wordsOf [x0] h = obind2 (aCall (env n_strings_Split) [x0, (sv ⟨#[32]⟩)] h) fun v1 h2 => some (v1, h2) := by kernel_rfl
theorem hb_impl_ValidSymbols : HasBody Tryd.prog n_impl_ValidSymbols := ⟨Tryd.f15, _, Tryd.func15, rfl, by decide⟩
theorem e_impl_ValidSymbols (env : Nat → Contract) (x0 : AV) (h : Heap) : denFn Tryd.prog env n_impl_ValidSymbols [x0] h = obind (aLenK .slice x0) fun v1 => obind (aBin .leq v1 (iv 8)) fun v2 => obind2 (guardB v2 true (obind2 (aCall (env n_slices_ContainsFunc_impl_Symbol_impl_Symbol) [x0, (.fn n_impl_ValidSymbols_1 [])] h) fun v3 h4 => obind (aUn .not v3) fun v5 => some (v5, h4)) (some (und, h))) fun v6 h7 => obind (aPick v2 v6 (bv false)) fun v8 => some (v8, h7) := by kernel_rfl
theorem hb_laws_eqSymbol : HasBody Tryd.prog n_laws_eqSymbol := ⟨Tryd.f17, _, Tryd.func17, rfl, by decide⟩
theorem e_laws_eqSymbol (env : Nat → Contract) (x0 x1 : AV) (h : Heap) : denFn Tryd.prog env n_laws_eqSymbol [x0, x1] h = obind2 (aBox (AV.cells x0) h) fun v1 h2 => obind2 (aBox (AV.cells x1) h2) fun v3 h4 => obind (aFieldAddr 0 v1) fun v5 => obind (aLoad false 1 v5 h4) fun v6 => obind (aFieldAddr 0 v3) fun v7 => obind (aLoad false 1 v7 h4) fun v8 => obind (aCmp .neq .plain v6 v8) fun v9 => condB v9 (some ((bv false), h4)) (obind (aFieldAddr 1 v1) fun v10 => obind (aLoad true 4 v10 h4) fun v11 => obind (aFieldAddr 1 v3) fun v12 => obind (aLoad true 4 v12 h4) fun v13 => obind2 (aCall (env n_laws_eqBox) [v11, v13] h4) fun v14 h15 => obind (aUn .not v14) fun v16 => condB v16 (some ((bv false), h15)) (some ((bv true), h15))) := by kernel_rfl
noncomputable abbrev c_laws_markText : Code := (Tryd.f18.body).getD .skip
noncomputable abbrev nm_laws_markText : List Bool := namedOf Tryd.f18
theorem hb_laws_markText : HasBody Tryd.prog n_laws_markText := ⟨Tryd.f18, _, Tryd.func18, rfl, by decide⟩
abbrev hm0_laws_markText : List Bool := [true, true, true, true, true, true, false, false, false, false, false, false, false, false, false, false, false, false, true, true]
abbrev xm0_laws_markText : List Bool := [true, true, true, true, true, true, false, false, false, false, false, false, false, false, false, false, false, false, true, true]
noncomputable def lb0_laws_markText (env : Nat → Contract) : TM → Heap → Option Res := fun tm h => denC Tryd.prog env nm_laws_markText (atrrrlll c_laws_markText) Res tm h fun e tm h => some (e, tm, h)
noncomputable def lk0_laws_markText (env : Nat → Contract) : AX → TM → Heap → Option (AV × Heap) := (kBlock 0 (kSeq Tryd.prog env nm_laws_markText (atrrrr c_laws_markText) _ (kRet Tryd.prog Tryd.f18.results.toList)))
theorem e_laws_markText (env : Nat → Contract) (x0 : AV) (h : Heap) : denFn Tryd.prog env n_laws_markText [x0] h = obind (aBin .leq x0 (iv 0)) fun v1 => condB v1 (some ((sv ⟨#[109, 48]⟩), h)) (obind (loopP hm0_laws_markText xm0_laws_markText (lb0_laws_markText env) [x0, und, (sv ⟨#[]⟩), (sv ⟨#[]⟩), x0, v1, .top, .top, .top, .top, .top, .top, .top, .top, .top, .top, .top, .top, und, und] h) fun r => lk0_laws_markText env r.1 r.2.1 r.2.2) := by kernel_rfl
theorem e_lb0_laws_markText (env : Nat → Contract) (y0 y1 y2 y3 y4 y5 y18 y19 : AV) (h : Heap) : lb0_laws_markText env [y0, y1, y2, y3, y4, y5, .top, .top, .top, .top, .top, .top, .top, .top, .top, .top, .top, .top, y18, y19] h = obind (aBin .gtr y0 (iv 0)) fun v2 => condB v2 (obind (aBin .rem y0 (iv 10)) fun v3 => obind (aBin .add (iv 48) v3) fun v4 => obind (aConvInt .u8 v4) fun v5 => obind2 (aBuildSlice [(.sc (.int .u8 0))] 1 [(0, v5)] h) fun v6 h7 => obind (aConvStr v6 h7) fun v8 => obind (aBin .add v8 y3) fun v9 => obind (aBin .quo y0 (iv 10)) fun v10 => some (.normal, [v10, y1, y2, v9, y4, y5, y0, v2, y0, v3, v4, v5, v6, v8, y3, v9, y0, v10, y18, y19], h7)) (some (.exit 0, [y0, y1, y2, y3, y4, y5, y0, v2, .top, .top, .top, .top, .top, .top, .top, .top, .top, .top, y18, y19], h)) := by kernel_rfl
theorem e_lk0x0_laws_markText (env : Nat → Contract) (z0 z1 z2 z3 z4 z5 z18 z19 : AV) (h : Heap) : lk0_laws_markText env (.exit 0) [z0, z1, z2, z3, z4, z5, .top, .top, .top, .top, .top, .top, .top, .top, .top, .top, .top, .top, z18, z19] h = obind (aBin .add (sv ⟨#[109]⟩) z3) fun v11 => some (v11, h) := by kernel_rfl
noncomputable abbrev c_spec_l01Number : Code := (Tryd.f19.body).getD .skip
noncomputable abbrev nm_spec_l01Number : List Bool := namedOf Tryd.f19
theorem hb_spec_l01Number : HasBody Tryd.prog n_spec_l01Number := ⟨Tryd.f19, _, Tryd.func19, rfl, by decide⟩
abbrev hm0_spec_l01Number : List Bool := [true, true, false, false, true, true, true, true, true, true, true, true, true, true, true, true, true, true, true, true, true, true, true, true, true, false, false, false, false, false, false, false, false, false, false, false, false, false, false, false, false, false, false, false, true, true, true, true, true, true, true, true, true, true, true, true]
abbrev xm0_spec_l01Number : List Bool := [true, true, true, true, true, true, true, true, true, true, true, true, true, true, true, true, true, true, true, true, true, true, true, true, true, false, false, false, false, false, false, false, false, false, false, false, false, false, false, false, false, false, false, false, true, true, true, true, true, true, true, true, true, true, true, true]
noncomputable def lb0_spec_l01Number (env : Nat → Contract) : TM → Heap → Option Res := fun tm h => denC Tryd.prog env nm_spec_l01Number (atrrrrrlrll c_spec_l01Number) Res tm h fun e tm h => some (e, tm, h)
noncomputable def lk0_spec_l01Number (env : Nat → Contract) : AX → TM → Heap → Option (AV × Heap) := (kBlock 0 (kSeq Tryd.prog env nm_spec_l01Number (atrrrrrr c_spec_l01Number) _ (kRet Tryd.prog Tryd.f19.results.toList)))
abbrev hm1_spec_l01Number : List Bool := [true, true, false, false, true, true, true, true, true, true, true, true, true, true, true, true, true, true, true, true, true, true, true, true, true, false, false, false, false, false, false, false, false, false, false, false, false, false, false, false, false, false, false, false, true, true, true, true, true, true, true, true, true, true, true, true]
abbrev xm1_spec_l01Number : List Bool := [true, true, true, true, true, true, true, true, true, true, true, true, true, true, true, true, true, true, true, true, true, true, true, true, true, false, false, false, false, false, false, false, false, false, false, false, false, false, false, false, false, false, false, false, true, true, true, true, true, true, true, true, true, true, true, true]
noncomputable def lb1_spec_l01Number (env : Nat → Contract) : TM → Heap → Option Res := fun tm h => denC Tryd.prog env nm_spec_l01Number (atrrrrrlrll c_spec_l01Number) Res tm h fun e tm h => some (e, tm, h)
noncomputable def lk1_spec_l01Number (env : Nat → Contract) : AX → TM → Heap → Option (AV × Heap) := (kBlock 0 (kSeq Tryd.prog env nm_spec_l01Number (atrrrrrr c_spec_l01Number) _ (kRet Tryd.prog Tryd.f19.results.toList)))
theorem e_spec_l01Number (env : Nat → Contract) (x0 : AV) (h : Heap) : denFn Tryd.prog env n_spec_l01Number [x0] h = obind (aCmp .neq .plain x0 (sv ⟨#[]⟩)) fun v1 => obind2 (guardB v1 true (obind (aIndexStr x0 (iv 0)) fun v2 => obind (aCmp .eql .plain v2 (.sc (.int .u8 45))) fun v3 => some (v3, h)) (some (und, h))) fun v4 h5 => obind (aPick v1 v4 (bv false)) fun v6 => condB v6 (obind (aSliceStr x0 (some (iv 1)) none) fun v7 => obind (aLenK .str v7) fun v8 => obind (aBin .lss v8 (iv 1)) fun v9 => obind2 (guardB v9 false (obind (aLenK .str v7) fun v10 => obind (aBin .gtr v10 (iv 18)) fun v11 => some (v11, h5)) (some (und, h5))) fun v12 h13 => obind (aPick v9 (bv true) v12) fun v14 => condB v14 (some ((.tup [(iv 0), (bv false)]), h13)) (obind (loopP hm0_spec_l01Number xm0_spec_l01Number (lb0_spec_l01Number env) [x0, und, .top, .top, v7, (iv 0), (iv 0), x0, x0, v1, v1, .top, .top, v4, v6, x0, v7, v7, v8, v9, v9, .top, .top, v12, v14, .top, .top, .top, .top, .top, .top, .top, .top, .top, .top, .top, .top, .top, .top, .top, .top, .top, .top, .top, und, und, und, und, und, und, und, und, und, und, und, und] h13) fun r => lk0_spec_l01Number env r.1 r.2.1 r.2.2)) (obind (aLenK .str x0) fun v15 => obind (aBin .lss v15 (iv 1)) fun v16 => obind2 (guardB v16 false (obind (aLenK .str x0) fun v17 => obind (aBin .gtr v17 (iv 18)) fun v18 => some (v18, h5)) (some (und, h5))) fun v19 h20 => obind (aPick v16 (bv true) v19) fun v21 => condB v21 (some ((.tup [(iv 0), (bv false)]), h20)) (obind (loopP hm1_spec_l01Number xm1_spec_l01Number (lb1_spec_l01Number env) [x0, und, .top, .top, x0, (iv 0), (iv 0), x0, x0, v1, v1, .top, .top, v4, v6, und, und, x0, v15, v16, v16, .top, .top, v19, v21, .top, .top, .top, .top, .top, .top, .top, .top, .top, .top, .top, .top, .top, .top, .top, .top, .top, .top, .top, und, und, und, und, und, und, und, und, und, und, und, und] h20) fun r => lk1_spec_l01Number env r.1 r.2.1 r.2.2)) := by kernel_rfl
theorem e_lb0_spec_l01Number (env : Nat → Contract) (y0 y1 y4 y5 y6 y7 y8 y9 y10 y11 y12 y13 y14 y15 y16 y17 y18 y19 y20 y21 y22 y23 y24 y44 y45 y46 y47 y48 y49 y50 y51 y52 y53 y54 y55 : AV) (h : Heap) : lb0_spec_l01Number env [y0, y1, .top, .top, y4, y5, y6, y7, y8, y9, y10, y11, y12, y13, y14, y15, y16, y17, y18, y19, y20, y21, y22, y23, y24, .top, .top, .top, .top, .top, .top, .top, .top, .top, .top, .top, .top, .top, .top, .top, .top, .top, .top, .top, y44, y45, y46, y47, y48, y49, y50, y51, y52, y53, y54, y55] h = obind (aLenK .str y4) fun v22 => obind (aBin .lss y6 v22) fun v23 => condB v23 (obind (aIndexStr y4 y6) fun v24 => obind2 (aCall (env n_spec_l01Digit) [v24] h) fun v25 h26 => obind (aUn .not v25) fun v27 => condB v27 (some (.ret, [y0, y1, (iv 0), (bv false), y4, y5, y6, y7, y8, y9, y10, y11, y12, y13, y14, y15, y16, y17, y18, y19, y20, y21, y22, y23, y24, y6, y4, v22, v23, .top, .top, y4, y6, v24, v25, v27, .top, .top, .top, .top, .top, .top, .top, .top, y44, y45, y46, y47, y48, y49, y50, y51, y52, y53, y54, y55], h26)) (obind (aBin .mul (iv 10) y5) fun v28 => obind (aIndexStr y4 y6) fun v29 => obind (aBin .sub v29 (.sc (.int .u8 48))) fun v30 => obind (aConvInt .i64 v30) fun v31 => obind (aBin .add v28 v31) fun v32 => obind (aBin .add y6 (iv 1)) fun v33 => some (.normal, [y0, y1, .top, .top, y4, v32, v33, y7, y8, y9, y10, y11, y12, y13, y14, y15, y16, y17, y18, y19, y20, y21, y22, y23, y24, y6, y4, v22, v23, y6, v33, y4, y6, v24, v25, v27, y5, v28, y4, y6, v29, v30, v31, v32, y44, y45, y46, y47, y48, y49, y50, y51, y52, y53, y54, y55], h26))) (some (.exit 0, [y0, y1, .top, .top, y4, y5, y6, y7, y8, y9, y10, y11, y12, y13, y14, y15, y16, y17, y18, y19, y20, y21, y22, y23, y24, y6, y4, v22, v23, .top, .top, .top, .top, .top, .top, .top, .top, .top, .top, .top, .top, .top, .top, .top, y44, y45, y46, y47, y48, y49, y50, y51, y52, y53, y54, y55], h)) := by kernel_rfl
theorem e_lk0x0_spec_l01Number (env : Nat → Contract) (z0 z1 z2 z3 z4 z5 z6 z7 z8 z9 z10 z11 z12 z13 z14 z15 z16 z17 z18 z19 z20 z21 z22 z23 z24 z44 z45 z46 z47 z48 z49 z50 z51 z52 z53 z54 z55 : AV) (h : Heap) : lk0_spec_l01Number env (.exit 0) [z0, z1, z2, z3, z4, z5, z6, z7, z8, z9, z10, z11, z12, z13, z14, z15, z16, z17, z18, z19, z20, z21, z22, z23, z24, .top, .top, .top, .top, .top, .top, .top, .top, .top, .top, .top, .top, .top, .top, .top, .top, .top, .top, .top, z44, z45, z46, z47, z48, z49, z50, z51, z52, z53, z54, z55] h = obind (aLenK .str z4) fun v34 => obind (aLenK .str z0) fun v35 => obind (aBin .lss v34 v35) fun v36 => condB v36 (obind (aUn .neg z5) fun v37 => obind2 (aCall (env n_spec_l01Dec) [v37] h) fun v38 h39 => obind (aCmp .neq .plain v38 z0) fun v40 => condB v40 (some ((.tup [(iv 0), (bv false)]), h39)) (some ((.tup [v37, (bv true)]), h39))) (obind2 (aCall (env n_spec_l01Dec) [z5] h) fun v41 h42 => obind (aCmp .neq .plain v41 z0) fun v43 => condB v43 (some ((.tup [(iv 0), (bv false)]), h42)) (some ((.tup [z5, (bv true)]), h42))) := by kernel_rfl
theorem e_lk0r_spec_l01Number (env : Nat → Contract) (z0 z1 z2 z3 z4 z5 z6 z7 z8 z9 z10 z11 z12 z13 z14 z15 z16 z17 z18 z19 z20 z21 z22 z23 z24 z44 z45 z46 z47 z48 z49 z50 z51 z52 z53 z54 z55 : AV) (h : Heap) : lk0_spec_l01Number env .ret [z0, z1, z2, z3, z4, z5, z6, z7, z8, z9, z10, z11, z12, z13, z14, z15, z16, z17, z18, z19, z20, z21, z22, z23, z24, .top, .top, .top, .top, .top, .top, .top, .top, .top, .top, .top, .top, .top, .top, .top, .top, .top, .top, .top, z44, z45, z46, z47, z48, z49, z50, z51, z52, z53, z54, z55] h = some ((.tup [z2, z3]), h) := by kernel_rfl
theorem e_lb1_spec_l01Number (env : Nat → Contract) (y0 y1 y4 y5 y6 y7 y8 y9 y10 y11 y12 y13 y14 y15 y16 y17 y18 y19 y20 y21 y22 y23 y24 y44 y45 y46 y47 y48 y49 y50 y51 y52 y53 y54 y55 : AV) (h : Heap) : lb1_spec_l01Number env [y0, y1, .top, .top, y4, y5, y6, y7, y8, y9, y10, y11, y12, y13, y14, y15, y16, y17, y18, y19, y20, y21, y22, y23, y24, .top, .top, .top, .top, .top, .top, .top, .top, .top, .top, .top, .top, .top, .top, .top, .top, .top, .top, .top, y44, y45, y46, y47, y48, y49, y50, y51, y52, y53, y54, y55] h = obind (aLenK .str y4) fun v44 => obind (aBin .lss y6 v44) fun v45 => condB v45 (obind (aIndexStr y4 y6) fun v46 => obind2 (aCall (env n_spec_l01Digit) [v46] h) fun v47 h48 => obind (aUn .not v47) fun v49 => condB v49 (some (.ret, [y0, y1, (iv 0), (bv false), y4, y5, y6, y7, y8, y9, y10, y11, y12, y13, y14, y15, y16, y17, y18, y19, y20, y21, y22, y23, y24, y6, y4, v44, v45, .top, .top, y4, y6, v46, v47, v49, .top, .top, .top, .top, .top, .top, .top, .top, y44, y45, y46, y47, y48, y49, y50, y51, y52, y53, y54, y55], h48)) (obind (aBin .mul (iv 10) y5) fun v50 => obind (aIndexStr y4 y6) fun v51 => obind (aBin .sub v51 (.sc (.int .u8 48))) fun v52 => obind (aConvInt .i64 v52) fun v53 => obind (aBin .add v50 v53) fun v54 => obind (aBin .add y6 (iv 1)) fun v55 => some (.normal, [y0, y1, .top, .top, y4, v54, v55, y7, y8, y9, y10, y11, y12, y13, y14, y15, y16, y17, y18, y19, y20, y21, y22, y23, y24, y6, y4, v44, v45, y6, v55, y4, y6, v46, v47, v49, y5, v50, y4, y6, v51, v52, v53, v54, y44, y45, y46, y47, y48, y49, y50, y51, y52, y53, y54, y55], h48))) (some (.exit 0, [y0, y1, .top, .top, y4, y5, y6, y7, y8, y9, y10, y11, y12, y13, y14, y15, y16, y17, y18, y19, y20, y21, y22, y23, y24, y6, y4, v44, v45, .top, .top, .top, .top, .top, .top, .top, .top, .top, .top, .top, .top, .top, .top, .top, y44, y45, y46, y47, y48, y49, y50, y51, y52, y53, y54, y55], h)) := by kernel_rfl
theorem e_lk1x0_spec_l01Number (env : Nat → Contract) (z0 z1 z2 z3 z4 z5 z6 z7 z8 z9 z10 z11 z12 z13 z14 z15 z16 z17 z18 z19 z20 z21 z22 z23 z24 z44 z45 z46 z47 z48 z49 z50 z51 z52 z53 z54 z55 : AV) (h : Heap) : lk1_spec_l01Number env (.exit 0) [z0, z1, z2, z3, z4, z5, z6, z7, z8, z9, z10, z11, z12, z13, z14, z15, z16, z17, z18, z19, z20, z21, z22, z23, z24, .top, .top, .top, .top, .top, .top, .top, .top, .top, .top, .top, .top, .top, .top, .top, .top, .top, .top, .top, z44, z45, z46, z47, z48, z49, z50, z51, z52, z53, z54, z55] h = obind (aLenK .str z4) fun v56 => obind (aLenK .str z0) fun v57 => obind (aBin .lss v56 v57) fun v58 => condB v58 (obind (aUn .neg z5) fun v59 => obind2 (aCall (env n_spec_l01Dec) [v59] h) fun v60 h61 => obind (aCmp .neq .plain v60 z0) fun v62 => condB v62 (some ((.tup [(iv 0), (bv false)]), h61)) (some ((.tup [v59, (bv true)]), h61))) (obind2 (aCall (env n_spec_l01Dec) [z5] h) fun v63 h64 => obind (aCmp .neq .plain v63 z0) fun v65 => condB v65 (some ((.tup [(iv 0), (bv false)]), h64)) (some ((.tup [z5, (bv true)]), h64))) := by kernel_rfl
theorem e_lk1r_spec_l01Number (env : Nat → Contract) (z0 z1 z2 z3 z4 z5 z6 z7 z8 z9 z10 z11 z12 z13 z14 z15 z16 z17 z18 z19 z20 z21 z22 z23 z24 z44 z45 z46 z47 z48 z49 z50 z51 z52 z53 z54 z55 : AV) (h : Heap) : lk1_spec_l01Number env .ret [z0, z1, z2, z3, z4, z5, z6, z7, z8, z9, z10, z11, z12, z13, z14, z15, z16, z17, z18, z19, z20, z21, z22, z23, z24, .top, .top, .top, .top, .top, .top, .top, .top, .top, .top, .top, .top, .top, .top, .top, .top, .top, .top, .top, z44, z45, z46, z47, z48, z49, z50, z51, z52, z53, z54, z55] h = some ((.tup [z2, z3]), h) := by kernel_rfl
theorem hb_spec_IsLabel : HasBody Tryd.prog n_spec_IsLabel := ⟨Tryd.f20, _, Tryd.func20, rfl, by decide⟩
theorem e_spec_IsLabel (env : Nat → Contract) (x0 : AV) (h : Heap) : denFn Tryd.prog env n_spec_IsLabel [x0] h = obind (aLenK .str x0) fun v1 => obind (aCmp .eql .plain v1 (iv 1)) fun v2 => obind2 (guardB v2 true (obind (aIndexStr x0 (iv 0)) fun v3 => obind2 (aCall (env n_spec_l11Label) [v3] h) fun v4 h5 => some (v4, h5)) (some (und, h))) fun v6 h7 => obind (aPick v2 v6 (bv false)) fun v8 => some (v8, h7) := by kernel_rfl
theorem hb_spec_l02Box : HasBody Tryd.prog n_spec_l02Box := ⟨Tryd.f21, _, Tryd.func21, rfl, by decide⟩
theorem e_spec_l02Box (env : Nat → Contract) (x0 : AV) (h : Heap) : denFn Tryd.prog env n_spec_l02Box [x0] h = obind2 (aBox (AV.cells x0) h) fun v1 h2 => obind (aFieldAddr 0 v1) fun v3 => obind (aLoad false 1 v3 h2) fun v4 => obind (aFieldAddr 2 v1) fun v5 => obind (aLoad false 1 v5 h2) fun v6 => obind2 (aCall (env n_spec_l00In) [v4, (iv 0), v6] h2) fun v7 h8 => obind2 (guardB v7 true (obind (aFieldAddr 1 v1) fun v9 => obind (aLoad false 1 v9 h8) fun v10 => obind (aFieldAddr 3 v1) fun v11 => obind (aLoad false 1 v11 h8) fun v12 => obind2 (aCall (env n_spec_l00In) [v10, (iv 0), v12] h8) fun v13 h14 => some (v13, h14)) (some (und, h8))) fun v15 h16 => obind (aPick v7 v15 (bv false)) fun v17 => obind2 (guardB v17 true (obind (aFieldAddr 2 v1) fun v18 => obind (aLoad false 1 v18 h16) fun v19 => obind (aBin .leq v19 (iv 4095)) fun v20 => some (v20, h16)) (some (und, h16))) fun v21 h22 => obind (aPick v17 v21 (bv false)) fun v23 => obind2 (guardB v23 true (obind (aFieldAddr 3 v1) fun v24 => obind (aLoad false 1 v24 h22) fun v25 => obind (aBin .leq v25 (iv 4095)) fun v26 => some (v26, h22)) (some (und, h22))) fun v27 h28 => obind (aPick v23 v27 (bv false)) fun v29 => some (v29, h28) := by kernel_rfl
theorem hb_strings_HasSuffix : HasBody Tryd.prog n_strings_HasSuffix := ⟨Tryd.f22, _, Tryd.func22, rfl, by decide⟩
theorem e_strings_HasSuffix (env : Nat → Contract) (x0 x1 : AV) (h : Heap) : denFn Tryd.prog env n_strings_HasSuffix [x0, x1] h = obind2 (aCall (env n_internal_stringslite_HasSuffix) [x0, x1] h) fun v1 h2 => some (v1, h2) := by kernel_rfl
theorem hb_strings_TrimSuffix : HasBody Tryd.prog n_strings_TrimSuffix := ⟨Tryd.f24, _, Tryd.func24, rfl, by decide⟩
theorem e_strings_TrimSuffix (env : Nat → Contract) (x0 x1 : AV) (h : Heap) : denFn Tryd.prog env n_strings_TrimSuffix [x0, x1] h = obind2 (aCall (env n_internal_stringslite_TrimSuffix) [x0, x1] h) fun v1 h2 => some (v1, h2) := by kernel_rfl
theorem hb_impl_Decimal : HasBody Tryd.prog n_impl_Decimal := ⟨Tryd.f27, _, Tryd.func27, rfl, by decide⟩
theorem e_impl_Decimal (env : Nat → Contract) (x0 : AV) (h : Heap) : denFn Tryd.prog env n_impl_Decimal [x0] h = obind2 (aCall (env n_strconv_FormatInt) [x0, (iv 10)] h) fun v1 h2 => some (v1, h2) := by kernel_rfl
theorem hb_slices_ContainsFunc_impl_Symbol_impl_Symbol : HasBody Tryd.prog n_slices_ContainsFunc_impl_Symbol_impl_Symbol := ⟨Tryd.f28, _, Tryd.func28, rfl, by decide⟩
theorem e_slices_ContainsFunc_impl_Symbol_impl_Symbol (env : Nat → Contract) (x0 x1 : AV) (h : Heap) : denFn Tryd.prog env n_slices_ContainsFunc_impl_Symbol_impl_Symbol [x0, x1] h = obind2 (aCall (env n_slices_IndexFunc_impl_Symbol_impl_Symbol) [x0, x1] h) fun v1 h2 => obind (aBin .geq v1 (iv 0)) fun v3 => some (v3, h2) := by kernel_rfl
theorem hb_impl_ValidSymbols_1 : HasBody Tryd.prog n_impl_ValidSymbols_1 := ⟨Tryd.f29, _, Tryd.func29, rfl, by decide⟩
theorem e_impl_ValidSymbols_1 (env : Nat → Contract) (x0 : AV) (h : Heap) : denFn Tryd.prog env n_impl_ValidSymbols_1 [x0] h = obind2 (aBox (AV.cells x0) h) fun v1 h2 => obind (aFieldAddr 0 v1) fun v3 => obind (aLoad false 1 v3 h2) fun v4 => obind2 (aCall (env n_impl_IsLabel) [v4] h2) fun v5 h6 => obind (aUn .not v5) fun v7 => obind2 (guardB v7 false (obind (aFieldAddr 1 v1) fun v8 => obind (aLoad true 4 v8 h6) fun v9 => obind2 (aCall (env n_impl_ValidBox) [v9] h6) fun v10 h11 => obind (aUn .not v10) fun v12 => some (v12, h11)) (some (und, h6))) fun v13 h14 => obind (aPick v7 (bv true) v13) fun v15 => some (v15, h14) := by kernel_rfl
theorem hb_impl_IsLabel : HasBody Tryd.prog n_impl_IsLabel := ⟨Tryd.f30, _, Tryd.func30, rfl, by decide⟩
theorem e_impl_IsLabel (env : Nat → Contract) (x0 : AV) (h : Heap) : denFn Tryd.prog env n_impl_IsLabel [x0] h = obind (aLenK .str x0) fun v1 => obind (aCmp .eql .plain v1 (iv 1)) fun v2 => obind2 (guardB v2 true (obind (aIndexStr x0 (iv 0)) fun v3 => obind2 (aCall (env n_impl_isLetter) [v3] h) fun v4 h5 => some (v4, h5)) (some (und, h))) fun v6 h7 => obind2 (guardB v6 false (obind2 (aCall (env n_strings_Contains) [(sv ⟨#[48, 49, 50, 51, 52, 53, 54, 55, 56, 57, 43, 45, 42, 47, 61, 40, 41, 46, 44]⟩), x0] h7) fun v8 h9 => some (v8, h9)) (some (und, h7))) fun v10 h11 => obind2 (guardB v2 true (obind (aPick v6 (bv true) v10) fun v12 => some (v12, h11)) (some (und, h11))) fun v13 h14 => obind (aPick v2 v13 (bv false)) fun v15 => some (v15, h14) := by kernel_rfl
theorem hb_impl_ValidBox : HasBody Tryd.prog n_impl_ValidBox := ⟨Tryd.f31, _, Tryd.func31, rfl, by decide⟩
theorem e_impl_ValidBox (env : Nat → Contract) (x0 : AV) (h : Heap) : denFn Tryd.prog env n_impl_ValidBox [x0] h = obind2 (aBox (AV.cells x0) h) fun v1 h2 => obind (aFieldAddr 0 v1) fun v3 => obind (aLoad false 1 v3 h2) fun v4 => obind (aFieldAddr 2 v1) fun v5 => obind (aLoad false 1 v5 h2) fun v6 => obind2 (aCall (env n_impl_within) [v4, (iv 0), v6] h2) fun v7 h8 => obind2 (guardB v7 true (obind (aFieldAddr 1 v1) fun v9 => obind (aLoad false 1 v9 h8) fun v10 => obind (aFieldAddr 3 v1) fun v11 => obind (aLoad false 1 v11 h8) fun v12 => obind2 (aCall (env n_impl_within) [v10, (iv 0), v12] h8) fun v13 h14 => some (v13, h14)) (some (und, h8))) fun v15 h16 => obind (aPick v7 v15 (bv false)) fun v17 => obind2 (guardB v17 true (obind (aFieldAddr 2 v1) fun v18 => obind (aLoad false 1 v18 h16) fun v19 => obind (aBin .leq v19 (iv 4095)) fun v20 => some (v20, h16)) (some (und, h16))) fun v21 h22 => obind (aPick v17 v21 (bv false)) fun v23 => obind2 (guardB v23 true (obind (aFieldAddr 3 v1) fun v24 => obind (aLoad false 1 v24 h22) fun v25 => obind (aBin .leq v25 (iv 4095)) fun v26 => some (v26, h22)) (some (und, h22))) fun v27 h28 => obind (aPick v23 v27 (bv false)) fun v29 => some (v29, h28) := by kernel_rfl
theorem hb_laws_eqBox : HasBody Tryd.prog n_laws_eqBox := ⟨Tryd.f34, _, Tryd.func34, rfl, by decide⟩
theorem e_laws_eqBox (env : Nat → Contract) (x0 x1 : AV) (h : Heap) : denFn Tryd.prog env n_laws_eqBox [x0, x1] h = obind2 (aBox (AV.cells x0) h) fun v1 h2 => obind2 (aBox (AV.cells x1) h2) fun v3 h4 => obind (aFieldAddr 0 v1) fun v5 => obind (aLoad false 1 v5 h4) fun v6 => obind (aFieldAddr 0 v3) fun v7 => obind (aLoad false 1 v7 h4) fun v8 => obind (aCmp .neq .plain v6 v8) fun v9 => condB v9 (some ((bv false), h4)) (obind (aFieldAddr 1 v1) fun v10 => obind (aLoad false 1 v10 h4) fun v11 => obind (aFieldAddr 1 v3) fun v12 => obind (aLoad false 1 v12 h4) fun v13 => obind (aCmp .neq .plain v11 v13) fun v14 => condB v14 (some ((bv false), h4)) (obind (aFieldAddr 2 v1) fun v15 => obind (aLoad false 1 v15 h4) fun v16 => obind (aFieldAddr 2 v3) fun v17 => obind (aLoad false 1 v17 h4) fun v18 => obind (aCmp .neq .plain v16 v18) fun v19 => condB v19 (some ((bv false), h4)) (obind (aFieldAddr 3 v1) fun v20 => obind (aLoad false 1 v20 h4) fun v21 => obind (aFieldAddr 3 v3) fun v22 => obind (aLoad false 1 v22 h4) fun v23 => obind (aCmp .neq .plain v21 v23) fun v24 => condB v24 (some ((bv false), h4)) (some ((bv true), h4))))) := by kernel_rfl
theorem hb_spec_l01Digit : HasBody Tryd.prog n_spec_l01Digit := ⟨Tryd.f35, _, Tryd.func35, rfl, by decide⟩
theorem e_spec_l01Digit (env : Nat → Contract) (x0 : AV) (h : Heap) : denFn Tryd.prog env n_spec_l01Digit [x0] h = obind (aBin .geq x0 (.sc (.int .u8 48))) fun v1 => obind2 (guardB v1 true (obind (aBin .leq x0 (.sc (.int .u8 57))) fun v2 => some (v2, h)) (some (und, h))) fun v3 h4 => obind (aPick v1 v3 (bv false)) fun v5 => some (v5, h4) := by kernel_rfl
noncomputable abbrev c_spec_l01Dec : Code := (Tryd.f36.body).getD .skip
noncomputable abbrev nm_spec_l01Dec : List Bool := namedOf Tryd.f36
theorem hb_spec_l01Dec : HasBody Tryd.prog n_spec_l01Dec := ⟨Tryd.f36, _, Tryd.func36, rfl, by decide⟩
abbrev hm0_spec_l01Dec : List Bool := [true, true, true, true, true, false, true, true, false, false, false, false, false, false, false, false, false, false, false, false, false, false, false, false, true, true, true, true, true, true, true, true, true, true]
abbrev xm0_spec_l01Dec : List Bool := [true, true, true, true, true, true, true, true, false, false, false, false, false, false, false, false, false, false, false, false, false, false, false, false, true, true, true, true, true, true, true, true, true, true]
noncomputable def lb0_spec_l01Dec (env : Nat → Contract) : TM → Heap → Option Res := fun tm h => denC Tryd.prog env nm_spec_l01Dec (atrrlrll c_spec_l01Dec) Res tm h fun e tm h => some (e, tm, h)
noncomputable def lk0_spec_l01Dec (env : Nat → Contract) : AX → TM → Heap → Option (AV × Heap) := (kBlock 0 (kSeq Tryd.prog env nm_spec_l01Dec (atrrr c_spec_l01Dec) _ (kRet Tryd.prog Tryd.f36.results.toList)))
theorem e_spec_l01Dec (env : Nat → Contract) (x0 : AV) (h : Heap) : denFn Tryd.prog env n_spec_l01Dec [x0] h = obind2 (aBuildSlice [(.sc (.int .u8 0))] 0 [] h) fun v1 h2 => obind (loopP hm0_spec_l01Dec xm0_spec_l01Dec (lb0_spec_l01Dec env) [x0, und, (sv ⟨#[]⟩), v1, x0, .top, v1, x0, .top, .top, .top, .top, .top, .top, .top, .top, .top, .top, .top, .top, .top, .top, .top, .top, und, und, und, und, und, und, und, und, und, und] h2) fun r => lk0_spec_l01Dec env r.1 r.2.1 r.2.2 := by kernel_rfl
theorem e_lb0_spec_l01Dec (env : Nat → Contract) (y0 y1 y2 y3 y4 y6 y7 y24 y25 y26 y27 y28 y29 y30 y31 y32 y33 : AV) (h : Heap) : lb0_spec_l01Dec env [y0, y1, y2, y3, y4, .top, y6, y7, .top, .top, .top, .top, .top, .top, .top, .top, .top, .top, .top, .top, .top, .top, .top, .top, y24, y25, y26, y27, y28, y29, y30, y31, y32, y33] h = obind (aCmp .neq .plain y4 (iv 0)) fun v3 => condB v3 (obind (aBin .rem y4 (iv 10)) fun v4 => obind (aBin .lss v4 (iv 0)) fun v5 => condB v5 (obind (aUn .neg v4) fun v6 => obind (aBin .add (iv 48) v6) fun v7 => obind (aConvInt .u8 v7) fun v8 => obind2 (aBuildSlice [(.sc (.int .u8 0))] 1 [(0, v8)] h) fun v9 h10 => obind2 (aAppend false 1 1 v9 y3 h10) fun v11 h12 => obind (aBin .quo y4 (iv 10)) fun v13 => some (.normal, [y0, y1, y2, v11, v13, v6, y6, y7, y4, v3, y4, v13, y4, v4, v4, v5, v4, v6, v6, v7, v8, v9, y3, v11, y24, y25, y26, y27, y28, y29, y30, y31, y32, y33], h12)) (obind (aBin .add (iv 48) v4) fun v14 => obind (aConvInt .u8 v14) fun v15 => obind2 (aBuildSlice [(.sc (.int .u8 0))] 1 [(0, v15)] h) fun v16 h17 => obind2 (aAppend false 1 1 v16 y3 h17) fun v18 h19 => obind (aBin .quo y4 (iv 10)) fun v20 => some (.normal, [y0, y1, y2, v18, v20, v4, y6, y7, y4, v3, y4, v20, y4, v4, v4, v5, .top, .top, v4, v14, v15, v16, y3, v18, y24, y25, y26, y27, y28, y29, y30, y31, y32, y33], h19))) (some (.exit 0, [y0, y1, y2, y3, y4, .top, y6, y7, y4, v3, .top, .top, .top, .top, .top, .top, .top, .top, .top, .top, .top, .top, .top, .top, y24, y25, y26, y27, y28, y29, y30, y31, y32, y33], h)) := by kernel_rfl
theorem e_lk0x0_spec_l01Dec (env : Nat → Contract) (z0 z1 z2 z3 z4 z5 z6 z7 z24 z25 z26 z27 z28 z29 z30 z31 z32 z33 : AV) (h : Heap) : lk0_spec_l01Dec env (.exit 0) [z0, z1, z2, z3, z4, z5, z6, z7, .top, .top, .top, .top, .top, .top, .top, .top, .top, .top, .top, .top, .top, .top, .top, .top, z24, z25, z26, z27, z28, z29, z30, z31, z32, z33] h = obind (aLenK .slice z3) fun v21 => obind (aCmp .eql .plain v21 (iv 0)) fun v22 => condB v22 (some ((sv ⟨#[48]⟩), h)) (obind (aBin .lss z0 (iv 0)) fun v23 => condB v23 (obind (aConvStr z3 h) fun v24 => obind (aBin .add (sv ⟨#[45]⟩) v24) fun v25 => some (v25, h)) (obind (aConvStr z3 h) fun v26 => some (v26, h))) := by kernel_rfl
theorem hb_spec_l11Label : HasBody Tryd.prog n_spec_l11Label := ⟨Tryd.f37, _, Tryd.func37, rfl, by decide⟩
theorem e_spec_l11Label (env : Nat → Contract) (x0 : AV) (h : Heap) : denFn Tryd.prog env n_spec_l11Label [x0] h = obind (aCmp .eql .plain x0 (.sc (.int .u8 43))) fun v1 => condB v1 (condB v1 (some ((bv true), h)) (obind2 (aCall (env n_spec_l01Small) [x0] h) fun v2 h3 => obind2 (guardB v2 false (obind (aBin .geq x0 (.sc (.int .u8 48))) fun v4 => some (v4, h3)) (some (und, h3))) fun v5 h6 => obind2 (guardB v5 true (obind (aBin .leq x0 (.sc (.int .u8 57))) fun v7 => some (v7, h6)) (some (und, h6))) fun v8 h9 => obind2 (guardB v2 false (obind (aPick v5 v8 (bv false)) fun v10 => some (v10, h9)) (some (und, h9))) fun v11 h12 => obind (aPick v2 (bv true) v11) fun v13 => some (v13, h12))) (obind (aCmp .eql .plain x0 (.sc (.int .u8 45))) fun v14 => condB v14 (condB v14 (some ((bv true), h)) (obind2 (aCall (env n_spec_l01Small) [x0] h) fun v15 h16 => obind2 (guardB v15 false (obind (aBin .geq x0 (.sc (.int .u8 48))) fun v17 => some (v17, h16)) (some (und, h16))) fun v18 h19 => obind2 (guardB v18 true (obind (aBin .leq x0 (.sc (.int .u8 57))) fun v20 => some (v20, h19)) (some (und, h19))) fun v21 h22 => obind2 (guardB v15 false (obind (aPick v18 v21 (bv false)) fun v23 => some (v23, h22)) (some (und, h22))) fun v24 h25 => obind (aPick v15 (bv true) v24) fun v26 => some (v26, h25))) (obind (aCmp .eql .plain x0 (.sc (.int .u8 42))) fun v27 => condB v27 (condB v27 (some ((bv true), h)) (obind2 (aCall (env n_spec_l01Small) [x0] h) fun v28 h29 => obind2 (guardB v28 false (obind (aBin .geq x0 (.sc (.int .u8 48))) fun v30 => some (v30, h29)) (some (und, h29))) fun v31 h32 => obind2 (guardB v31 true (obind (aBin .leq x0 (.sc (.int .u8 57))) fun v33 => some (v33, h32)) (some (und, h32))) fun v34 h35 => obind2 (guardB v28 false (obind (aPick v31 v34 (bv false)) fun v36 => some (v36, h35)) (some (und, h35))) fun v37 h38 => obind (aPick v28 (bv true) v37) fun v39 => some (v39, h38))) (obind (aCmp .eql .plain x0 (.sc (.int .u8 47))) fun v40 => condB v40 (condB v40 (some ((bv true), h)) (obind2 (aCall (env n_spec_l01Small) [x0] h) fun v41 h42 => obind2 (guardB v41 false (obind (aBin .geq x0 (.sc (.int .u8 48))) fun v43 => some (v43, h42)) (some (und, h42))) fun v44 h45 => obind2 (guardB v44 true (obind (aBin .leq x0 (.sc (.int .u8 57))) fun v46 => some (v46, h45)) (some (und, h45))) fun v47 h48 => obind2 (guardB v41 false (obind (aPick v44 v47 (bv false)) fun v49 => some (v49, h48)) (some (und, h48))) fun v50 h51 => obind (aPick v41 (bv true) v50) fun v52 => some (v52, h51))) (obind (aCmp .eql .plain x0 (.sc (.int .u8 61))) fun v53 => condB v53 (condB v53 (some ((bv true), h)) (obind2 (aCall (env n_spec_l01Small) [x0] h) fun v54 h55 => obind2 (guardB v54 false (obind (aBin .geq x0 (.sc (.int .u8 48))) fun v56 => some (v56, h55)) (some (und, h55))) fun v57 h58 => obind2 (guardB v57 true (obind (aBin .leq x0 (.sc (.int .u8 57))) fun v59 => some (v59, h58)) (some (und, h58))) fun v60 h61 => obind2 (guardB v54 false (obind (aPick v57 v60 (bv false)) fun v62 => some (v62, h61)) (some (und, h61))) fun v63 h64 => obind (aPick v54 (bv true) v63) fun v65 => some (v65, h64))) (obind (aCmp .eql .plain x0 (.sc (.int .u8 40))) fun v66 => condB v66 (condB v66 (some ((bv true), h)) (obind2 (aCall (env n_spec_l01Small) [x0] h) fun v67 h68 => obind2 (guardB v67 false (obind (aBin .geq x0 (.sc (.int .u8 48))) fun v69 => some (v69, h68)) (some (und, h68))) fun v70 h71 => obind2 (guardB v70 true (obind (aBin .leq x0 (.sc (.int .u8 57))) fun v72 => some (v72, h71)) (some (und, h71))) fun v73 h74 => obind2 (guardB v67 false (obind (aPick v70 v73 (bv false)) fun v75 => some (v75, h74)) (some (und, h74))) fun v76 h77 => obind (aPick v67 (bv true) v76) fun v78 => some (v78, h77))) (obind (aCmp .eql .plain x0 (.sc (.int .u8 41))) fun v79 => condB v79 (condB v79 (some ((bv true), h)) (obind2 (aCall (env n_spec_l01Small) [x0] h) fun v80 h81 => obind2 (guardB v80 false (obind (aBin .geq x0 (.sc (.int .u8 48))) fun v82 => some (v82, h81)) (some (und, h81))) fun v83 h84 => obind2 (guardB v83 true (obind (aBin .leq x0 (.sc (.int .u8 57))) fun v85 => some (v85, h84)) (some (und, h84))) fun v86 h87 => obind2 (guardB v80 false (obind (aPick v83 v86 (bv false)) fun v88 => some (v88, h87)) (some (und, h87))) fun v89 h90 => obind (aPick v80 (bv true) v89) fun v91 => some (v91, h90))) (obind (aCmp .eql .plain x0 (.sc (.int .u8 46))) fun v92 => condB v92 (condB v92 (some ((bv true), h)) (obind2 (aCall (env n_spec_l01Small) [x0] h) fun v93 h94 => obind2 (guardB v93 false (obind (aBin .geq x0 (.sc (.int .u8 48))) fun v95 => some (v95, h94)) (some (und, h94))) fun v96 h97 => obind2 (guardB v96 true (obind (aBin .leq x0 (.sc (.int .u8 57))) fun v98 => some (v98, h97)) (some (und, h97))) fun v99 h100 => obind2 (guardB v93 false (obind (aPick v96 v99 (bv false)) fun v101 => some (v101, h100)) (some (und, h100))) fun v102 h103 => obind (aPick v93 (bv true) v102) fun v104 => some (v104, h103))) (obind (aCmp .eql .plain x0 (.sc (.int .u8 44))) fun v105 => condB v105 (some ((bv true), h)) (obind2 (aCall (env n_spec_l01Small) [x0] h) fun v106 h107 => obind2 (guardB v106 false (obind (aBin .geq x0 (.sc (.int .u8 48))) fun v108 => some (v108, h107)) (some (und, h107))) fun v109 h110 => obind2 (guardB v109 true (obind (aBin .leq x0 (.sc (.int .u8 57))) fun v111 => some (v111, h110)) (some (und, h110))) fun v112 h113 => obind2 (guardB v106 false (obind (aPick v109 v112 (bv false)) fun v114 => some (v114, h113)) (some (und, h113))) fun v115 h116 => obind (aPick v106 (bv true) v115) fun v117 => some (v117, h116)))))))))) := by kernel_rfl
theorem hb_spec_l00In : HasBody Tryd.prog n_spec_l00In := ⟨Tryd.f38, _, Tryd.func38, rfl, by decide⟩
theorem e_spec_l00In (env : Nat → Contract) (x0 x1 x2 : AV) (h : Heap) : denFn Tryd.prog env n_spec_l00In [x0, x1, x2] h = obind (aBin .geq x0 x1) fun v1 => obind2 (guardB v1 true (obind (aBin .leq x0 x2) fun v2 => some (v2, h)) (some (und, h))) fun v3 h4 => obind (aPick v1 v3 (bv false)) fun v5 => some (v5, h4) := by kernel_rfl
theorem hb_internal_stringslite_HasSuffix : HasBody Tryd.prog n_internal_stringslite_HasSuffix := ⟨Tryd.f39, _, Tryd.func39, rfl, by decide⟩
theorem e_internal_stringslite_HasSuffix (env : Nat → Contract) (x0 x1 : AV) (h : Heap) : denFn Tryd.prog env n_internal_stringslite_HasSuffix [x0, x1] h = obind (aLenK .str x0) fun v1 => obind (aLenK .str x1) fun v2 => obind (aBin .geq v1 v2) fun v3 => obind2 (guardB v3 true (obind (aLenK .str x0) fun v4 => obind (aLenK .str x1) fun v5 => obind (aBin .sub v4 v5) fun v6 => obind (aSliceStr x0 (some v6) none) fun v7 => obind (aCmp .eql .plain v7 x1) fun v8 => some (v8, h)) (some (und, h))) fun v9 h10 => obind (aPick v3 v9 (bv false)) fun v11 => some (v11, h10) := by kernel_rfl
theorem hb_internal_stringslite_TrimSuffix : HasBody Tryd.prog n_internal_stringslite_TrimSuffix := ⟨Tryd.f41, _, Tryd.func41, rfl, by decide⟩
theorem e_internal_stringslite_TrimSuffix (env : Nat → Contract) (x0 x1 : AV) (h : Heap) : denFn Tryd.prog env n_internal_stringslite_TrimSuffix [x0, x1] h = obind2 (aCall (env n_internal_stringslite_HasSuffix) [x0, x1] h) fun v1 h2 => condB v1 (obind (aLenK .str x0) fun v3 => obind (aLenK .str x1) fun v4 => obind (aBin .sub v3 v4) fun v5 => obind (aSliceStr x0 none (some v5)) fun v6 => some (v6, h2)) (some (x0, h2)) := by kernel_rfl
theorem hb_strconv_FormatInt : HasBody Tryd.prog n_strconv_FormatInt := ⟨Tryd.f45, _, Tryd.func45, rfl, by decide⟩
theorem e_strconv_FormatInt (env : Nat → Contract) (x0 x1 : AV) (h : Heap) : denFn Tryd.prog env n_strconv_FormatInt [x0, x1] h = obind2 (aCall (env n_internal_strconv_FormatInt) [x0, x1] h) fun v1 h2 => some (v1, h2) := by kernel_rfl
noncomputable abbrev c_slices_IndexFunc_impl_Symbol_impl_Symbol : Code := (Tryd.f46.body).getD .skip
noncomputable abbrev nm_slices_IndexFunc_impl_Symbol_impl_Symbol : List Bool := namedOf Tryd.f46
theorem hb_slices_IndexFunc_impl_Symbol_impl_Symbol : HasBody Tryd.prog n_slices_IndexFunc_impl_Symbol_impl_Symbol := ⟨Tryd.f46, _, Tryd.func46, rfl, by decide⟩
abbrev hm0_slices_IndexFunc_impl_Symbol_impl_Symbol : List Bool := [true, true, true, true, false, false, true, true, true, false, false, false, false, false, false, false, false, false, false]
abbrev xm0_slices_IndexFunc_impl_Symbol_impl_Symbol : List Bool := [true, true, true, true, true, true, true, true, false, false, false, false, false, false, false, false, false, false, false]
noncomputable def lb0_slices_IndexFunc_impl_Symbol_impl_Symbol (env : Nat → Contract) : TM → Heap → Option Res := fun tm h => denC Tryd.prog env nm_slices_IndexFunc_impl_Symbol_impl_Symbol (atrlrll c_slices_IndexFunc_impl_Symbol_impl_Symbol) Res tm h fun e tm h => some (e, tm, h)
noncomputable def lk0_slices_IndexFunc_impl_Symbol_impl_Symbol (env : Nat → Contract) : AX → TM → Heap → Option (AV × Heap) := (kBlock 0 (kSeq Tryd.prog env nm_slices_IndexFunc_impl_Symbol_impl_Symbol (atrr c_slices_IndexFunc_impl_Symbol_impl_Symbol) _ (kRet Tryd.prog Tryd.f46.results.toList)))
theorem e_slices_IndexFunc_impl_Symbol_impl_Symbol (env : Nat → Contract) (x0 x1 : AV) (h : Heap) : denFn Tryd.prog env n_slices_IndexFunc_impl_Symbol_impl_Symbol [x0, x1] h = obind (aLenK .slice x0) fun v1 => obind (loopP hm0_slices_IndexFunc_impl_Symbol_impl_Symbol xm0_slices_IndexFunc_impl_Symbol_impl_Symbol (lb0_slices_IndexFunc_impl_Symbol_impl_Symbol env) [x0, x1, und, und, .top, .top, x0, v1, (iv 0), .top, .top, .top, .top, .top, .top, .top, .top, .top, .top] h) fun r => lk0_slices_IndexFunc_impl_Symbol_impl_Symbol env r.1 r.2.1 r.2.2 := by kernel_rfl
theorem e_lb0_slices_IndexFunc_impl_Symbol_impl_Symbol (env : Nat → Contract) (y0 y1 y2 y3 y6 y7 y8 : AV) (h : Heap) : lb0_slices_IndexFunc_impl_Symbol_impl_Symbol env [y0, y1, y2, y3, .top, .top, y6, y7, y8, .top, .top, .top, .top, .top, .top, .top, .top, .top, .top] h = obind (aBin .lss y8 y7) fun v2 => condB v2 (obind (aIndexAddr 5 y0 y8 h) fun v3 => obind (aLoad true 5 v3 h) fun v4 => (match y1 with | .fn g5 c6 => obind2 (aCall (env g5) ([v4] ++ c6) h) fun v7 h8 => condB v7 (some (.ret, [y0, y1, y2, y3, y8, y8, y6, y7, y8, v2, y8, y1, y0, y8, v3, v4, v7, y8, .top], h8)) (obind (aBin .add y8 (iv 1)) fun v9 => some (.normal, [y0, y1, y2, y3, .top, y8, y6, y7, v9, v2, y8, y1, y0, y8, v3, v4, v7, .top, v9], h8)) | _ => none)) (some (.exit 0, [y0, y1, y2, y3, .top, .top, y6, y7, y8, v2, .top, .top, .top, .top, .top, .top, .top, .top, .top], h)) := by kernel_rfl
theorem e_lk0x0_slices_IndexFunc_impl_Symbol_impl_Symbol (env : Nat → Contract) (z0 z1 z2 z3 z4 z5 z6 z7 : AV) (h : Heap) : lk0_slices_IndexFunc_impl_Symbol_impl_Symbol env (.exit 0) [z0, z1, z2, z3, z4, z5, z6, z7, .top, .top, .top, .top, .top, .top, .top, .top, .top, .top, .top] h = some ((iv (-1)), h) := by kernel_rfl
theorem e_lk0r_slices_IndexFunc_impl_Symbol_impl_Symbol (env : Nat → Contract) (z0 z1 z2 z3 z4 z5 z6 z7 : AV) (h : Heap) : lk0_slices_IndexFunc_impl_Symbol_impl_Symbol env .ret [z0, z1, z2, z3, z4, z5, z6, z7, .top, .top, .top, .top, .top, .top, .top, .top, .top, .top, .top] h = some (z4, h) := by kernel_rfl
theorem hb_impl_isLetter : HasBody Tryd.prog n_impl_isLetter := ⟨Tryd.f47, _, Tryd.func47, rfl, by decide⟩
theorem e_impl_isLetter (env : Nat → Contract) (x0 : AV) (h : Heap) : denFn Tryd.prog env n_impl_isLetter [x0] h = obind (aBin .geq x0 (.sc (.int .u8 97))) fun v1 => obind2 (guardB v1 true (obind (aBin .leq x0 (.sc (.int .u8 122))) fun v2 => some (v2, h)) (some (und, h))) fun v3 h4 => obind (aPick v1 v3 (bv false)) fun v5 => some (v5, h4) := by kernel_rfl
theorem hb_strings_Contains : HasBody Tryd.prog n_strings_Contains := ⟨Tryd.f48, _, Tryd.func48, rfl, by decide⟩
theorem e_strings_Contains (env : Nat → Contract) (x0 x1 : AV) (h : Heap) : denFn Tryd.prog env n_strings_Contains [x0, x1] h = obind2 (aCall (env n_strings_Index) [x0, x1] h) fun v1 h2 => obind (aBin .geq v1 (iv 0)) fun v3 => some (v3, h2) := by kernel_rfl
theorem hb_impl_within : HasBody Tryd.prog n_impl_within := ⟨Tryd.f49, _, Tryd.func49, rfl, by decide⟩
theorem e_impl_within (env : Nat → Contract) (x0 x1 x2 : AV) (h : Heap) : denFn Tryd.prog env n_impl_within [x0, x1, x2] h = obind (aBin .geq x0 x1) fun v1 => obind2 (guardB v1 true (obind (aBin .leq x0 x2) fun v2 => some (v2, h)) (some (und, h))) fun v3 h4 => obind (aPick v1 v3 (bv false)) fun v5 => some (v5, h4) := by kernel_rfl
theorem hb_spec_l01Small : HasBody Tryd.prog n_spec_l01Small := ⟨Tryd.f51, _, Tryd.func51, rfl, by decide⟩
theorem e_spec_l01Small (env : Nat → Contract) (x0 : AV) (h : Heap) : denFn Tryd.prog env n_spec_l01Small [x0] h = obind (aBin .geq x0 (.sc (.int .u8 97))) fun v1 => obind2 (guardB v1 true (obind (aBin .leq x0 (.sc (.int .u8 122))) fun v2 => some (v2, h)) (some (und, h))) fun v3 h4 => obind (aPick v1 v3 (bv false)) fun v5 => some (v5, h4) := by kernel_rfl
theorem hb_strings_Index : HasBody Tryd.prog n_strings_Index := ⟨Tryd.f54, _, Tryd.func54, rfl, by decide⟩
theorem e_strings_Index (env : Nat → Contract) (x0 x1 : AV) (h : Heap) : denFn Tryd.prog env n_strings_Index [x0, x1] h = obind2 (aCall (env n_internal_stringslite_Index) [x0, x1] h) fun v1 h2 => some (v1, h2) := by kernel_rfl
noncomputable abbrev c_internal_stringslite_Index : Code := (Tryd.f66.body).getD .skip
noncomputable abbrev nm_internal_stringslite_Index : List Bool := namedOf Tryd.f66
theorem hb_internal_stringslite_Index : HasBody Tryd.prog n_internal_stringslite_Index := ⟨Tryd.f66, _, Tryd.func66, rfl, by decide⟩
abbrev hm0_internal_stringslite_Index : List Bool := (true :: true :: true :: true :: false :: true :: true :: true :: true :: true :: true :: false :: false :: false :: true :: true :: true :: true :: true :: true :: true :: true :: true :: true :: true :: true :: true :: true :: true :: true :: true :: true :: true :: true :: true :: true :: true :: true :: true :: true :: true :: true :: true :: true :: true :: true :: true :: true :: true :: true :: true :: true :: true :: true :: true :: true :: true :: false :: false :: false :: false :: false :: false :: false :: false :: false :: false :: false :: false :: false :: false :: false :: false :: false :: false :: false :: false :: false :: false :: false :: false :: false :: false :: false :: false :: false :: false :: false :: false :: false :: false :: false :: false :: false :: false :: false :: false :: false :: false :: false :: false :: false :: false :: false :: false :: false :: false :: false :: false :: false :: false :: false :: false :: false :: false :: false :: false :: false :: false :: false :: false :: false :: false :: false :: false :: false :: false :: false :: false :: false :: false :: false :: false :: false :: false :: false :: false :: false :: false :: false :: false :: false :: false :: [])
abbrev xm0_internal_stringslite_Index : List Bool := (true :: true :: true :: true :: true :: true :: true :: true :: true :: true :: true :: true :: true :: true :: true :: true :: true :: true :: true :: true :: true :: true :: true :: true :: true :: true :: true :: true :: true :: true :: true :: true :: true :: true :: true :: true :: true :: true :: true :: true :: true :: true :: true :: true :: true :: true :: true :: true :: true :: true :: true :: true :: true :: true :: true :: true :: true :: false :: false :: false :: false :: false :: false :: false :: false :: false :: false :: false :: false :: false :: false :: false :: false :: false :: false :: false :: false :: false :: false :: false :: false :: false :: false :: false :: false :: false :: false :: false :: false :: false :: false :: false :: false :: false :: false :: false :: false :: false :: false :: false :: false :: false :: false :: false :: false :: false :: false :: false :: false :: false :: false :: false :: false :: false :: false :: false :: false :: false :: false :: false :: false :: false :: false :: false :: false :: false :: false :: false :: false :: false :: false :: false :: false :: false :: false :: false :: false :: false :: false :: false :: false :: false :: false :: [])
noncomputable def lb0_internal_stringslite_Index (env : Nat → Contract) : TM → Heap → Option Res := fun tm h => denC Tryd.prog env nm_internal_stringslite_Index (atrrrrrrrrlll c_internal_stringslite_Index) Res tm h fun e tm h => some (e, tm, h)
noncomputable def lk0_internal_stringslite_Index (env : Nat → Contract) : AX → TM → Heap → Option (AV × Heap) := (kBlock 1 (kSeq Tryd.prog env nm_internal_stringslite_Index (atrrrrrrrrr c_internal_stringslite_Index) _ (kRet Tryd.prog Tryd.f66.results.toList)))
theorem e_internal_stringslite_Index (env : Nat → Contract) (x0 x1 : AV) (h : Heap) : denFn Tryd.prog env n_internal_stringslite_Index [x0, x1] h = obind (aLenK .str x1) fun v1 => obind (aCmp .eql .plain v1 (iv 0)) fun v2 => obind2 (guardB v2 false (obind (aCmp .eql .plain x1 x0) fun v3 => some (v3, h)) (some (und, h))) fun v4 h5 => obind (aPick v2 (bv true) v4) fun v6 => condB v6 (some ((iv 0), h5)) (obind (aCmp .eql .plain v1 (iv 1)) fun v7 => condB v7 (obind (aIndexStr x1 (iv 0)) fun v8 => obind2 (aCall (env n_internal_stringslite_IndexByte) [x0, v8] h5) fun v9 h10 => some (v9, h10)) (obind (aLenK .str x0) fun v11 => obind (aBin .geq v1 v11) fun v12 => condB v12 (some ((iv (-1)), h5)) (obind (aLoad false 1 .top h5) fun v13 => obind (aBin .leq v1 v13) fun v14 => obind2 (guardB v14 true (obind (aLenK .str x0) fun v15 => obind (aBin .leq v15 (iv 64)) fun v16 => some (v16, h5)) (some (und, h5))) fun v17 h18 => obind (aPick v14 v17 (bv false)) fun v19 => condB v19 (obind2 (aCall (env n_internal_bytealg_IndexString) [x0, x1] h18) fun v20 h21 => some (v20, h21)) (obind (aIndexStr x1 (iv 0)) fun v22 => obind (aIndexStr x1 (iv 1)) fun v23 => obind (aLenK .str x0) fun v24 => obind (aBin .sub v24 v1) fun v25 => obind (aBin .add v25 (iv 1)) fun v26 => obind (loopP hm0_internal_stringslite_Index xm0_internal_stringslite_Index (lb0_internal_stringslite_Index env) (x0 :: x1 :: und :: und :: .top :: v1 :: v22 :: v23 :: (iv 0) :: v26 :: (iv 0) :: .top :: .top :: .top :: x1 :: v1 :: v6 :: v1 :: v2 :: v2 :: .top :: .top :: v4 :: v6 :: v7 :: v1 :: v7 :: und :: und :: und :: und :: v12 :: v1 :: x0 :: v11 :: v12 :: v19 :: v1 :: v13 :: v14 :: v14 :: .top :: .top :: v17 :: v19 :: und :: und :: und :: x1 :: v22 :: x1 :: v23 :: x0 :: v24 :: v1 :: v25 :: v26 :: .top :: .top :: .top :: .top :: .top :: .top :: .top :: .top :: .top :: .top :: .top :: .top :: .top :: .top :: .top :: .top :: .top :: .top :: .top :: .top :: .top :: .top :: .top :: .top :: .top :: .top :: .top :: .top :: .top :: .top :: .top :: .top :: .top :: .top :: .top :: .top :: .top :: .top :: .top :: .top :: .top :: .top :: .top :: .top :: .top :: .top :: .top :: .top :: .top :: .top :: .top :: .top :: .top :: .top :: .top :: .top :: .top :: .top :: .top :: .top :: .top :: .top :: .top :: .top :: .top :: .top :: .top :: .top :: .top :: .top :: .top :: .top :: .top :: .top :: .top :: .top :: .top :: .top :: .top :: .top :: .top :: .top :: .top :: .top :: .top :: .top :: []) h18) fun r => lk0_internal_stringslite_Index env r.1 r.2.1 r.2.2)))) := by kernel_rfl
theorem e_lb0_internal_stringslite_Index (env : Nat → Contract) (y0 y1 y2 y3 y5 y6 y7 y8 y9 y10 y14 y15 y16 y17 y18 y19 y20 y21 y22 y23 y24 y25 y26 y27 y28 y29 y30 y31 y32 y33 y34 y35 y36 y37 y38 y39 y40 y41 y42 y43 y44 y45 y46 y47 y48 y49 y50 y51 y52 y53 y54 y55 y56 : AV) (h : Heap) : lb0_internal_stringslite_Index env (y0 :: y1 :: y2 :: y3 :: .top :: y5 :: y6 :: y7 :: y8 :: y9 :: y10 :: .top :: .top :: .top :: y14 :: y15 :: y16 :: y17 :: y18 :: y19 :: y20 :: y21 :: y22 :: y23 :: y24 :: y25 :: y26 :: y27 :: y28 :: y29 :: y30 :: y31 :: y32 :: y33 :: y34 :: y35 :: y36 :: y37 :: y38 :: y39 :: y40 :: y41 :: y42 :: y43 :: y44 :: y45 :: y46 :: y47 :: y48 :: y49 :: y50 :: y51 :: y52 :: y53 :: y54 :: y55 :: y56 :: .top :: .top :: .top :: .top :: .top :: .top :: .top :: .top :: .top :: .top :: .top :: .top :: .top :: .top :: .top :: .top :: .top :: .top :: .top :: .top :: .top :: .top :: .top :: .top :: .top :: .top :: .top :: .top :: .top :: .top :: .top :: .top :: .top :: .top :: .top :: .top :: .top :: .top :: .top :: .top :: .top :: .top :: .top :: .top :: .top :: .top :: .top :: .top :: .top :: .top :: .top :: .top :: .top :: .top :: .top :: .top :: .top :: .top :: .top :: .top :: .top :: .top :: .top :: .top :: .top :: .top :: .top :: .top :: .top :: .top :: .top :: .top :: .top :: .top :: .top :: .top :: .top :: .top :: .top :: .top :: .top :: .top :: .top :: .top :: .top :: .top :: []) h = obind (aBin .lss y8 y9) fun v27 => condB v27 (obind (aIndexStr y0 y8) fun v28 => obind (aCmp .neq .plain v28 y6) fun v29 => condB v29 (obind (aBin .add y8 (iv 1)) fun v30 => obind (aSliceStr y0 (some v30) (some y9)) fun v31 => obind2 (aCall (env n_internal_stringslite_IndexByte) [v31, y6] h) fun v32 h33 => obind (aBin .lss v32 (iv 0)) fun v34 => condB v34 (some (.ret, (y0 :: y1 :: y2 :: y3 :: (iv (-1)) :: y5 :: y6 :: y7 :: y8 :: y9 :: y10 :: v32 :: .top :: .top :: y14 :: y15 :: y16 :: y17 :: y18 :: y19 :: y20 :: y21 :: y22 :: y23 :: y24 :: y25 :: y26 :: y27 :: y28 :: y29 :: y30 :: y31 :: y32 :: y33 :: y34 :: y35 :: y36 :: y37 :: y38 :: y39 :: y40 :: y41 :: y42 :: y43 :: y44 :: y45 :: y46 :: y47 :: y48 :: y49 :: y50 :: y51 :: y52 :: y53 :: y54 :: y55 :: y56 :: y8 :: y9 :: v27 :: y0 :: y8 :: v28 :: y6 :: v29 :: y0 :: y8 :: v30 :: y9 :: v31 :: y6 :: v32 :: v32 :: v34 :: .top :: .top :: .top :: .top :: .top :: .top :: .top :: .top :: .top :: .top :: .top :: .top :: .top :: .top :: .top :: .top :: .top :: .top :: .top :: .top :: .top :: .top :: .top :: .top :: .top :: .top :: .top :: .top :: .top :: .top :: .top :: .top :: .top :: .top :: .top :: .top :: .top :: .top :: .top :: .top :: .top :: .top :: .top :: .top :: .top :: .top :: .top :: .top :: .top :: .top :: .top :: .top :: .top :: .top :: .top :: .top :: .top :: .top :: .top :: .top :: .top :: .top :: .top :: .top :: .top :: .top :: .top :: .top :: .top :: []), h33)) (obind (aBin .add v32 (iv 1)) fun v35 => obind (aBin .add y8 v35) fun v36 => obind (aBin .add v36 (iv 1)) fun v37 => obind (aIndexStr y0 v37) fun v38 => obind (aCmp .eql .plain v38 y7) fun v39 => obind2 (guardB v39 true (obind (aBin .add v36 y5) fun v40 => obind (aSliceStr y0 (some v36) (some v40)) fun v41 => obind (aCmp .eql .plain v41 y1) fun v42 => some (v42, h33)) (some (und, h33))) fun v43 h44 => obind (aPick v39 v43 (bv false)) fun v45 => condB v45 (some (.ret, (y0 :: y1 :: y2 :: y3 :: v36 :: y5 :: y6 :: y7 :: v36 :: y9 :: y10 :: v32 :: .top :: .top :: y14 :: y15 :: y16 :: y17 :: y18 :: y19 :: y20 :: y21 :: y22 :: y23 :: y24 :: y25 :: y26 :: y27 :: y28 :: y29 :: y30 :: y31 :: y32 :: y33 :: y34 :: y35 :: y36 :: y37 :: y38 :: y39 :: y40 :: y41 :: y42 :: y43 :: y44 :: y45 :: y46 :: y47 :: y48 :: y49 :: y50 :: y51 :: y52 :: y53 :: y54 :: y55 :: y56 :: y8 :: y9 :: v27 :: y0 :: y8 :: v28 :: y6 :: v29 :: y0 :: y8 :: v30 :: y9 :: v31 :: y6 :: v32 :: v32 :: v34 :: y8 :: v32 :: v35 :: v36 :: y0 :: v36 :: v37 :: v38 :: y7 :: v39 :: v39 :: .top :: .top :: .top :: .top :: .top :: .top :: .top :: v43 :: v45 :: v36 :: .top :: .top :: .top :: .top :: .top :: .top :: .top :: .top :: .top :: .top :: .top :: .top :: .top :: .top :: .top :: .top :: .top :: .top :: .top :: .top :: .top :: .top :: .top :: .top :: .top :: .top :: .top :: .top :: .top :: .top :: .top :: .top :: .top :: .top :: .top :: .top :: .top :: .top :: .top :: .top :: .top :: .top :: .top :: .top :: .top :: .top :: .top :: .top :: []), h44)) (obind (aBin .add v36 (iv 1)) fun v46 => obind (aBin .add y10 (iv 1)) fun v47 => obind (aLoad false 1 .top h44) fun v48 => obind (aBin .leq y5 v48) fun v49 => obind2 (guardB v49 true (obind2 (aCall (env n_internal_bytealg_Cutover) [v46] h44) fun v50 h51 => obind (aBin .gtr v47 v50) fun v52 => some (v52, h51)) (some (und, h44))) fun v53 h54 => obind (aPick v49 v53 (bv false)) fun v55 => condB v55 (obind (aSliceStr y0 (some v46) none) fun v56 => obind2 (aCall (env n_internal_bytealg_IndexString) [v56, y1] h54) fun v57 h58 => obind (aBin .geq v57 (iv 0)) fun v59 => condB v59 (obind (aBin .add v57 v46) fun v60 => some (.ret, (y0 :: y1 :: y2 :: y3 :: v60 :: y5 :: y6 :: y7 :: v46 :: y9 :: v47 :: v32 :: v57 :: .top :: y14 :: y15 :: y16 :: y17 :: y18 :: y19 :: y20 :: y21 :: y22 :: y23 :: y24 :: y25 :: y26 :: y27 :: y28 :: y29 :: y30 :: y31 :: y32 :: y33 :: y34 :: y35 :: y36 :: y37 :: y38 :: y39 :: y40 :: y41 :: y42 :: y43 :: y44 :: y45 :: y46 :: y47 :: y48 :: y49 :: y50 :: y51 :: y52 :: y53 :: y54 :: y55 :: y56 :: y8 :: y9 :: v27 :: y0 :: y8 :: v28 :: y6 :: v29 :: y0 :: y8 :: v30 :: y9 :: v31 :: y6 :: v32 :: v32 :: v34 :: y8 :: v32 :: v35 :: v36 :: y0 :: v36 :: v37 :: v38 :: y7 :: v39 :: v39 :: .top :: .top :: .top :: .top :: .top :: .top :: .top :: v43 :: v45 :: .top :: v36 :: v46 :: y10 :: v47 :: y5 :: v48 :: v49 :: v49 :: .top :: .top :: .top :: v53 :: v55 :: y0 :: v46 :: v56 :: y1 :: v57 :: v57 :: v59 :: v57 :: v46 :: v60 :: .top :: .top :: .top :: .top :: .top :: .top :: .top :: .top :: .top :: .top :: .top :: .top :: .top :: .top :: .top :: .top :: .top :: .top :: .top :: .top :: .top :: .top :: .top :: .top :: .top :: []), h58)) (some (.ret, (y0 :: y1 :: y2 :: y3 :: (iv (-1)) :: y5 :: y6 :: y7 :: v46 :: y9 :: v47 :: v32 :: v57 :: .top :: y14 :: y15 :: y16 :: y17 :: y18 :: y19 :: y20 :: y21 :: y22 :: y23 :: y24 :: y25 :: y26 :: y27 :: y28 :: y29 :: y30 :: y31 :: y32 :: y33 :: y34 :: y35 :: y36 :: y37 :: y38 :: y39 :: y40 :: y41 :: y42 :: y43 :: y44 :: y45 :: y46 :: y47 :: y48 :: y49 :: y50 :: y51 :: y52 :: y53 :: y54 :: y55 :: y56 :: y8 :: y9 :: v27 :: y0 :: y8 :: v28 :: y6 :: v29 :: y0 :: y8 :: v30 :: y9 :: v31 :: y6 :: v32 :: v32 :: v34 :: y8 :: v32 :: v35 :: v36 :: y0 :: v36 :: v37 :: v38 :: y7 :: v39 :: v39 :: .top :: .top :: .top :: .top :: .top :: .top :: .top :: v43 :: v45 :: .top :: v36 :: v46 :: y10 :: v47 :: y5 :: v48 :: v49 :: v49 :: .top :: .top :: .top :: v53 :: v55 :: y0 :: v46 :: v56 :: y1 :: v57 :: v57 :: v59 :: .top :: .top :: .top :: .top :: .top :: .top :: .top :: .top :: .top :: .top :: .top :: .top :: .top :: .top :: .top :: .top :: .top :: .top :: .top :: .top :: .top :: .top :: .top :: .top :: .top :: .top :: .top :: .top :: []), h58))) (obind (aLoad false 1 .top h54) fun v61 => obind (aBin .gtr y5 v61) fun v62 => obind2 (guardB v62 true (obind (aBin .shr v46 (.sc (.int .u64 4))) fun v63 => obind (aBin .add (iv 4) v63) fun v64 => obind (aBin .geq v47 v64) fun v65 => some (v65, h54)) (some (und, h54))) fun v66 h67 => obind (aPick v62 v66 (bv false)) fun v68 => obind2 (guardB v68 true (obind (aBin .lss v46 y9) fun v69 => some (v69, h67)) (some (und, h67))) fun v70 h71 => obind (aPick v68 v70 (bv false)) fun v72 => condB v72 (obind (aSliceStr y0 (some v46) none) fun v73 => obind2 (aCall (env n_internal_bytealg_IndexRabinKarp_string) [v73, y1] h71) fun v74 h75 => obind (aBin .lss v74 (iv 0)) fun v76 => condB v76 (some (.ret, (y0 :: y1 :: y2 :: y3 :: (iv (-1)) :: y5 :: y6 :: y7 :: v46 :: y9 :: v47 :: v32 :: .top :: v74 :: y14 :: y15 :: y16 :: y17 :: y18 :: y19 :: y20 :: y21 :: y22 :: y23 :: y24 :: y25 :: y26 :: y27 :: y28 :: y29 :: y30 :: y31 :: y32 :: y33 :: y34 :: y35 :: y36 :: y37 :: y38 :: y39 :: y40 :: y41 :: y42 :: y43 :: y44 :: y45 :: y46 :: y47 :: y48 :: y49 :: y50 :: y51 :: y52 :: y53 :: y54 :: y55 :: y56 :: y8 :: y9 :: v27 :: y0 :: y8 :: v28 :: y6 :: v29 :: y0 :: y8 :: v30 :: y9 :: v31 :: y6 :: v32 :: v32 :: v34 :: y8 :: v32 :: v35 :: v36 :: y0 :: v36 :: v37 :: v38 :: y7 :: v39 :: v39 :: .top :: .top :: .top :: .top :: .top :: .top :: .top :: v43 :: v45 :: .top :: v36 :: v46 :: y10 :: v47 :: y5 :: v48 :: v49 :: v49 :: .top :: .top :: .top :: v53 :: v55 :: .top :: .top :: .top :: .top :: .top :: .top :: .top :: .top :: .top :: .top :: y5 :: v61 :: v62 :: v62 :: .top :: .top :: .top :: .top :: v66 :: v68 :: v68 :: .top :: .top :: v70 :: v72 :: y0 :: v46 :: v73 :: y1 :: v74 :: v74 :: v76 :: .top :: .top :: .top :: []), h75)) (obind (aBin .add v46 v74) fun v77 => some (.ret, (y0 :: y1 :: y2 :: y3 :: v77 :: y5 :: y6 :: y7 :: v46 :: y9 :: v47 :: v32 :: .top :: v74 :: y14 :: y15 :: y16 :: y17 :: y18 :: y19 :: y20 :: y21 :: y22 :: y23 :: y24 :: y25 :: y26 :: y27 :: y28 :: y29 :: y30 :: y31 :: y32 :: y33 :: y34 :: y35 :: y36 :: y37 :: y38 :: y39 :: y40 :: y41 :: y42 :: y43 :: y44 :: y45 :: y46 :: y47 :: y48 :: y49 :: y50 :: y51 :: y52 :: y53 :: y54 :: y55 :: y56 :: y8 :: y9 :: v27 :: y0 :: y8 :: v28 :: y6 :: v29 :: y0 :: y8 :: v30 :: y9 :: v31 :: y6 :: v32 :: v32 :: v34 :: y8 :: v32 :: v35 :: v36 :: y0 :: v36 :: v37 :: v38 :: y7 :: v39 :: v39 :: .top :: .top :: .top :: .top :: .top :: .top :: .top :: v43 :: v45 :: .top :: v36 :: v46 :: y10 :: v47 :: y5 :: v48 :: v49 :: v49 :: .top :: .top :: .top :: v53 :: v55 :: .top :: .top :: .top :: .top :: .top :: .top :: .top :: .top :: .top :: .top :: y5 :: v61 :: v62 :: v62 :: .top :: .top :: .top :: .top :: v66 :: v68 :: v68 :: .top :: .top :: v70 :: v72 :: y0 :: v46 :: v73 :: y1 :: v74 :: v74 :: v76 :: v46 :: v74 :: v77 :: []), h75))) (some (.normal, (y0 :: y1 :: y2 :: y3 :: .top :: y5 :: y6 :: y7 :: v46 :: y9 :: v47 :: v32 :: .top :: .top :: y14 :: y15 :: y16 :: y17 :: y18 :: y19 :: y20 :: y21 :: y22 :: y23 :: y24 :: y25 :: y26 :: y27 :: y28 :: y29 :: y30 :: y31 :: y32 :: y33 :: y34 :: y35 :: y36 :: y37 :: y38 :: y39 :: y40 :: y41 :: y42 :: y43 :: y44 :: y45 :: y46 :: y47 :: y48 :: y49 :: y50 :: y51 :: y52 :: y53 :: y54 :: y55 :: y56 :: y8 :: y9 :: v27 :: y0 :: y8 :: v28 :: y6 :: v29 :: y0 :: y8 :: v30 :: y9 :: v31 :: y6 :: v32 :: v32 :: v34 :: y8 :: v32 :: v35 :: v36 :: y0 :: v36 :: v37 :: v38 :: y7 :: v39 :: v39 :: .top :: .top :: .top :: .top :: .top :: .top :: .top :: v43 :: v45 :: .top :: v36 :: v46 :: y10 :: v47 :: y5 :: v48 :: v49 :: v49 :: .top :: .top :: .top :: v53 :: v55 :: .top :: .top :: .top :: .top :: .top :: .top :: .top :: .top :: .top :: .top :: y5 :: v61 :: v62 :: v62 :: .top :: .top :: .top :: .top :: v66 :: v68 :: v68 :: .top :: .top :: v70 :: v72 :: .top :: .top :: .top :: .top :: .top :: .top :: .top :: .top :: .top :: .top :: []), h71)))))) (obind (aBin .add y8 (iv 1)) fun v78 => obind (aIndexStr y0 v78) fun v79 => obind (aCmp .eql .plain v79 y7) fun v80 => obind2 (guardB v80 true (obind (aBin .add y8 y5) fun v81 => obind (aSliceStr y0 (some y8) (some v81)) fun v82 => obind (aCmp .eql .plain v82 y1) fun v83 => some (v83, h)) (some (und, h))) fun v84 h85 => obind (aPick v80 v84 (bv false)) fun v86 => condB v86 (some (.ret, (y0 :: y1 :: y2 :: y3 :: y8 :: y5 :: y6 :: y7 :: y8 :: y9 :: y10 :: .top :: .top :: .top :: y14 :: y15 :: y16 :: y17 :: y18 :: y19 :: y20 :: y21 :: y22 :: y23 :: y24 :: y25 :: y26 :: y27 :: y28 :: y29 :: y30 :: y31 :: y32 :: y33 :: y34 :: y35 :: y36 :: y37 :: y38 :: y39 :: y40 :: y41 :: y42 :: y43 :: y44 :: y45 :: y46 :: y47 :: y48 :: y49 :: y50 :: y51 :: y52 :: y53 :: y54 :: y55 :: y56 :: y8 :: y9 :: v27 :: y0 :: y8 :: v28 :: y6 :: v29 :: .top :: .top :: .top :: .top :: .top :: .top :: .top :: .top :: .top :: .top :: .top :: .top :: .top :: y0 :: y8 :: v78 :: v79 :: y7 :: v80 :: v80 :: .top :: .top :: .top :: .top :: .top :: .top :: .top :: v84 :: v86 :: y8 :: .top :: .top :: .top :: .top :: .top :: .top :: .top :: .top :: .top :: .top :: .top :: .top :: .top :: .top :: .top :: .top :: .top :: .top :: .top :: .top :: .top :: .top :: .top :: .top :: .top :: .top :: .top :: .top :: .top :: .top :: .top :: .top :: .top :: .top :: .top :: .top :: .top :: .top :: .top :: .top :: .top :: .top :: .top :: .top :: .top :: .top :: .top :: .top :: []), h85)) (obind (aBin .add y8 (iv 1)) fun v87 => obind (aBin .add y10 (iv 1)) fun v88 => obind (aLoad false 1 .top h85) fun v89 => obind (aBin .leq y5 v89) fun v90 => obind2 (guardB v90 true (obind2 (aCall (env n_internal_bytealg_Cutover) [v87] h85) fun v91 h92 => obind (aBin .gtr v88 v91) fun v93 => some (v93, h92)) (some (und, h85))) fun v94 h95 => obind (aPick v90 v94 (bv false)) fun v96 => condB v96 (obind (aSliceStr y0 (some v87) none) fun v97 => obind2 (aCall (env n_internal_bytealg_IndexString) [v97, y1] h95) fun v98 h99 => obind (aBin .geq v98 (iv 0)) fun v100 => condB v100 (obind (aBin .add v98 v87) fun v101 => some (.ret, (y0 :: y1 :: y2 :: y3 :: v101 :: y5 :: y6 :: y7 :: v87 :: y9 :: v88 :: .top :: v98 :: .top :: y14 :: y15 :: y16 :: y17 :: y18 :: y19 :: y20 :: y21 :: y22 :: y23 :: y24 :: y25 :: y26 :: y27 :: y28 :: y29 :: y30 :: y31 :: y32 :: y33 :: y34 :: y35 :: y36 :: y37 :: y38 :: y39 :: y40 :: y41 :: y42 :: y43 :: y44 :: y45 :: y46 :: y47 :: y48 :: y49 :: y50 :: y51 :: y52 :: y53 :: y54 :: y55 :: y56 :: y8 :: y9 :: v27 :: y0 :: y8 :: v28 :: y6 :: v29 :: .top :: .top :: .top :: .top :: .top :: .top :: .top :: .top :: .top :: .top :: .top :: .top :: .top :: y0 :: y8 :: v78 :: v79 :: y7 :: v80 :: v80 :: .top :: .top :: .top :: .top :: .top :: .top :: .top :: v84 :: v86 :: .top :: y8 :: v87 :: y10 :: v88 :: y5 :: v89 :: v90 :: v90 :: .top :: .top :: .top :: v94 :: v96 :: y0 :: v87 :: v97 :: y1 :: v98 :: v98 :: v100 :: v98 :: v87 :: v101 :: .top :: .top :: .top :: .top :: .top :: .top :: .top :: .top :: .top :: .top :: .top :: .top :: .top :: .top :: .top :: .top :: .top :: .top :: .top :: .top :: .top :: .top :: .top :: .top :: .top :: []), h99)) (some (.ret, (y0 :: y1 :: y2 :: y3 :: (iv (-1)) :: y5 :: y6 :: y7 :: v87 :: y9 :: v88 :: .top :: v98 :: .top :: y14 :: y15 :: y16 :: y17 :: y18 :: y19 :: y20 :: y21 :: y22 :: y23 :: y24 :: y25 :: y26 :: y27 :: y28 :: y29 :: y30 :: y31 :: y32 :: y33 :: y34 :: y35 :: y36 :: y37 :: y38 :: y39 :: y40 :: y41 :: y42 :: y43 :: y44 :: y45 :: y46 :: y47 :: y48 :: y49 :: y50 :: y51 :: y52 :: y53 :: y54 :: y55 :: y56 :: y8 :: y9 :: v27 :: y0 :: y8 :: v28 :: y6 :: v29 :: .top :: .top :: .top :: .top :: .top :: .top :: .top :: .top :: .top :: .top :: .top :: .top :: .top :: y0 :: y8 :: v78 :: v79 :: y7 :: v80 :: v80 :: .top :: .top :: .top :: .top :: .top :: .top :: .top :: v84 :: v86 :: .top :: y8 :: v87 :: y10 :: v88 :: y5 :: v89 :: v90 :: v90 :: .top :: .top :: .top :: v94 :: v96 :: y0 :: v87 :: v97 :: y1 :: v98 :: v98 :: v100 :: .top :: .top :: .top :: .top :: .top :: .top :: .top :: .top :: .top :: .top :: .top :: .top :: .top :: .top :: .top :: .top :: .top :: .top :: .top :: .top :: .top :: .top :: .top :: .top :: .top :: .top :: .top :: .top :: []), h99))) (obind (aLoad false 1 .top h95) fun v102 => obind (aBin .gtr y5 v102) fun v103 => obind2 (guardB v103 true (obind (aBin .shr v87 (.sc (.int .u64 4))) fun v104 => obind (aBin .add (iv 4) v104) fun v105 => obind (aBin .geq v88 v105) fun v106 => some (v106, h95)) (some (und, h95))) fun v107 h108 => obind (aPick v103 v107 (bv false)) fun v109 => obind2 (guardB v109 true (obind (aBin .lss v87 y9) fun v110 => some (v110, h108)) (some (und, h108))) fun v111 h112 => obind (aPick v109 v111 (bv false)) fun v113 => condB v113 (obind (aSliceStr y0 (some v87) none) fun v114 => obind2 (aCall (env n_internal_bytealg_IndexRabinKarp_string) [v114, y1] h112) fun v115 h116 => obind (aBin .lss v115 (iv 0)) fun v117 => condB v117 (some (.ret, (y0 :: y1 :: y2 :: y3 :: (iv (-1)) :: y5 :: y6 :: y7 :: v87 :: y9 :: v88 :: .top :: .top :: v115 :: y14 :: y15 :: y16 :: y17 :: y18 :: y19 :: y20 :: y21 :: y22 :: y23 :: y24 :: y25 :: y26 :: y27 :: y28 :: y29 :: y30 :: y31 :: y32 :: y33 :: y34 :: y35 :: y36 :: y37 :: y38 :: y39 :: y40 :: y41 :: y42 :: y43 :: y44 :: y45 :: y46 :: y47 :: y48 :: y49 :: y50 :: y51 :: y52 :: y53 :: y54 :: y55 :: y56 :: y8 :: y9 :: v27 :: y0 :: y8 :: v28 :: y6 :: v29 :: .top :: .top :: .top :: .top :: .top :: .top :: .top :: .top :: .top :: .top :: .top :: .top :: .top :: y0 :: y8 :: v78 :: v79 :: y7 :: v80 :: v80 :: .top :: .top :: .top :: .top :: .top :: .top :: .top :: v84 :: v86 :: .top :: y8 :: v87 :: y10 :: v88 :: y5 :: v89 :: v90 :: v90 :: .top :: .top :: .top :: v94 :: v96 :: .top :: .top :: .top :: .top :: .top :: .top :: .top :: .top :: .top :: .top :: y5 :: v102 :: v103 :: v103 :: .top :: .top :: .top :: .top :: v107 :: v109 :: v109 :: .top :: .top :: v111 :: v113 :: y0 :: v87 :: v114 :: y1 :: v115 :: v115 :: v117 :: .top :: .top :: .top :: []), h116)) (obind (aBin .add v87 v115) fun v118 => some (.ret, (y0 :: y1 :: y2 :: y3 :: v118 :: y5 :: y6 :: y7 :: v87 :: y9 :: v88 :: .top :: .top :: v115 :: y14 :: y15 :: y16 :: y17 :: y18 :: y19 :: y20 :: y21 :: y22 :: y23 :: y24 :: y25 :: y26 :: y27 :: y28 :: y29 :: y30 :: y31 :: y32 :: y33 :: y34 :: y35 :: y36 :: y37 :: y38 :: y39 :: y40 :: y41 :: y42 :: y43 :: y44 :: y45 :: y46 :: y47 :: y48 :: y49 :: y50 :: y51 :: y52 :: y53 :: y54 :: y55 :: y56 :: y8 :: y9 :: v27 :: y0 :: y8 :: v28 :: y6 :: v29 :: .top :: .top :: .top :: .top :: .top :: .top :: .top :: .top :: .top :: .top :: .top :: .top :: .top :: y0 :: y8 :: v78 :: v79 :: y7 :: v80 :: v80 :: .top :: .top :: .top :: .top :: .top :: .top :: .top :: v84 :: v86 :: .top :: y8 :: v87 :: y10 :: v88 :: y5 :: v89 :: v90 :: v90 :: .top :: .top :: .top :: v94 :: v96 :: .top :: .top :: .top :: .top :: .top :: .top :: .top :: .top :: .top :: .top :: y5 :: v102 :: v103 :: v103 :: .top :: .top :: .top :: .top :: v107 :: v109 :: v109 :: .top :: .top :: v111 :: v113 :: y0 :: v87 :: v114 :: y1 :: v115 :: v115 :: v117 :: v87 :: v115 :: v118 :: []), h116))) (some (.normal, (y0 :: y1 :: y2 :: y3 :: .top :: y5 :: y6 :: y7 :: v87 :: y9 :: v88 :: .top :: .top :: .top :: y14 :: y15 :: y16 :: y17 :: y18 :: y19 :: y20 :: y21 :: y22 :: y23 :: y24 :: y25 :: y26 :: y27 :: y28 :: y29 :: y30 :: y31 :: y32 :: y33 :: y34 :: y35 :: y36 :: y37 :: y38 :: y39 :: y40 :: y41 :: y42 :: y43 :: y44 :: y45 :: y46 :: y47 :: y48 :: y49 :: y50 :: y51 :: y52 :: y53 :: y54 :: y55 :: y56 :: y8 :: y9 :: v27 :: y0 :: y8 :: v28 :: y6 :: v29 :: .top :: .top :: .top :: .top :: .top :: .top :: .top :: .top :: .top :: .top :: .top :: .top :: .top :: y0 :: y8 :: v78 :: v79 :: y7 :: v80 :: v80 :: .top :: .top :: .top :: .top :: .top :: .top :: .top :: v84 :: v86 :: .top :: y8 :: v87 :: y10 :: v88 :: y5 :: v89 :: v90 :: v90 :: .top :: .top :: .top :: v94 :: v96 :: .top :: .top :: .top :: .top :: .top :: .top :: .top :: .top :: .top :: .top :: y5 :: v102 :: v103 :: v103 :: .top :: .top :: .top :: .top :: v107 :: v109 :: v109 :: .top :: .top :: v111 :: v113 :: .top :: .top :: .top :: .top :: .top :: .top :: .top :: .top :: .top :: .top :: []), h112)))))) (some (.exit 1, (y0 :: y1 :: y2 :: y3 :: .top :: y5 :: y6 :: y7 :: y8 :: y9 :: y10 :: .top :: .top :: .top :: y14 :: y15 :: y16 :: y17 :: y18 :: y19 :: y20 :: y21 :: y22 :: y23 :: y24 :: y25 :: y26 :: y27 :: y28 :: y29 :: y30 :: y31 :: y32 :: y33 :: y34 :: y35 :: y36 :: y37 :: y38 :: y39 :: y40 :: y41 :: y42 :: y43 :: y44 :: y45 :: y46 :: y47 :: y48 :: y49 :: y50 :: y51 :: y52 :: y53 :: y54 :: y55 :: y56 :: y8 :: y9 :: v27 :: .top :: .top :: .top :: .top :: .top :: .top :: .top :: .top :: .top :: .top :: .top :: .top :: .top :: .top :: .top :: .top :: .top :: .top :: .top :: .top :: .top :: .top :: .top :: .top :: .top :: .top :: .top :: .top :: .top :: .top :: .top :: .top :: .top :: .top :: .top :: .top :: .top :: .top :: .top :: .top :: .top :: .top :: .top :: .top :: .top :: .top :: .top :: .top :: .top :: .top :: .top :: .top :: .top :: .top :: .top :: .top :: .top :: .top :: .top :: .top :: .top :: .top :: .top :: .top :: .top :: .top :: .top :: .top :: .top :: .top :: .top :: .top :: .top :: .top :: .top :: .top :: .top :: .top :: .top :: .top :: .top :: .top :: .top :: []), h)) := by kernel_rfl
theorem e_lk0x1_internal_stringslite_Index (env : Nat → Contract) (z0 z1 z2 z3 z4 z5 z6 z7 z8 z9 z10 z11 z12 z13 z14 z15 z16 z17 z18 z19 z20 z21 z22 z23 z24 z25 z26 z27 z28 z29 z30 z31 z32 z33 z34 z35 z36 z37 z38 z39 z40 z41 z42 z43 z44 z45 z46 z47 z48 z49 z50 z51 z52 z53 z54 z55 z56 : AV) (h : Heap) : lk0_internal_stringslite_Index env (.exit 1) (z0 :: z1 :: z2 :: z3 :: z4 :: z5 :: z6 :: z7 :: z8 :: z9 :: z10 :: z11 :: z12 :: z13 :: z14 :: z15 :: z16 :: z17 :: z18 :: z19 :: z20 :: z21 :: z22 :: z23 :: z24 :: z25 :: z26 :: z27 :: z28 :: z29 :: z30 :: z31 :: z32 :: z33 :: z34 :: z35 :: z36 :: z37 :: z38 :: z39 :: z40 :: z41 :: z42 :: z43 :: z44 :: z45 :: z46 :: z47 :: z48 :: z49 :: z50 :: z51 :: z52 :: z53 :: z54 :: z55 :: z56 :: .top :: .top :: .top :: .top :: .top :: .top :: .top :: .top :: .top :: .top :: .top :: .top :: .top :: .top :: .top :: .top :: .top :: .top :: .top :: .top :: .top :: .top :: .top :: .top :: .top :: .top :: .top :: .top :: .top :: .top :: .top :: .top :: .top :: .top :: .top :: .top :: .top :: .top :: .top :: .top :: .top :: .top :: .top :: .top :: .top :: .top :: .top :: .top :: .top :: .top :: .top :: .top :: .top :: .top :: .top :: .top :: .top :: .top :: .top :: .top :: .top :: .top :: .top :: .top :: .top :: .top :: .top :: .top :: .top :: .top :: .top :: .top :: .top :: .top :: .top :: .top :: .top :: .top :: .top :: .top :: .top :: .top :: .top :: .top :: .top :: .top :: []) h = some ((iv (-1)), h) := by kernel_rfl
theorem e_lk0r_internal_stringslite_Index (env : Nat → Contract) (z0 z1 z2 z3 z4 z5 z6 z7 z8 z9 z10 z11 z12 z13 z14 z15 z16 z17 z18 z19 z20 z21 z22 z23 z24 z25 z26 z27 z28 z29 z30 z31 z32 z33 z34 z35 z36 z37 z38 z39 z40 z41 z42 z43 z44 z45 z46 z47 z48 z49 z50 z51 z52 z53 z54 z55 z56 : AV) (h : Heap) : lk0_internal_stringslite_Index env .ret (z0 :: z1 :: z2 :: z3 :: z4 :: z5 :: z6 :: z7 :: z8 :: z9 :: z10 :: z11 :: z12 :: z13 :: z14 :: z15 :: z16 :: z17 :: z18 :: z19 :: z20 :: z21 :: z22 :: z23 :: z24 :: z25 :: z26 :: z27 :: z28 :: z29 :: z30 :: z31 :: z32 :: z33 :: z34 :: z35 :: z36 :: z37 :: z38 :: z39 :: z40 :: z41 :: z42 :: z43 :: z44 :: z45 :: z46 :: z47 :: z48 :: z49 :: z50 :: z51 :: z52 :: z53 :: z54 :: z55 :: z56 :: .top :: .top :: .top :: .top :: .top :: .top :: .top :: .top :: .top :: .top :: .top :: .top :: .top :: .top :: .top :: .top :: .top :: .top :: .top :: .top :: .top :: .top :: .top :: .top :: .top :: .top :: .top :: .top :: .top :: .top :: .top :: .top :: .top :: .top :: .top :: .top :: .top :: .top :: .top :: .top :: .top :: .top :: .top :: .top :: .top :: .top :: .top :: .top :: .top :: .top :: .top :: .top :: .top :: .top :: .top :: .top :: .top :: .top :: .top :: .top :: .top :: .top :: .top :: .top :: .top :: .top :: .top :: .top :: .top :: .top :: .top :: .top :: .top :: .top :: .top :: .top :: .top :: .top :: .top :: .top :: .top :: .top :: .top :: .top :: .top :: .top :: []) h = some (z4, h) := by kernel_rfl
theorem hb_internal_stringslite_IndexByte : HasBody Tryd.prog n_internal_stringslite_IndexByte := ⟨Tryd.f77, _, Tryd.func77, rfl, by decide⟩
theorem e_internal_stringslite_IndexByte (env : Nat → Contract) (x0 x1 : AV) (h : Heap) : denFn Tryd.prog env n_internal_stringslite_IndexByte [x0, x1] h = obind2 (aCall (env n_internal_bytealg_IndexByteString) [x0, x1] h) fun v1 h2 => some (v1, h2) := by kernel_rfl
section
open Go.Proofs Go.Shelf
def layFmt_ren : Go.Shelf.Ren := ⟨fun | 173 => 45 | 246 => 61 | 283 => 72 | 284 => 73 | 285 => 74 | 286 => 75 | 129 => 83 | 317 => 82 | 318 => 84 | 319 => 85 | 320 => 86 | 337 => 89 | 338 => 90 | n => n, fun | 2 => 2 | 3 => 3 | 9 => 9 | 4 => 4 | 171 => 93 | 0 => 0 | 53 => 75 | 37 => 58 | 5 => 5 | 173 => 96 | 212 => 103 | 51 => 104 | 20 => 20 | 213 => 105 | 46 => 78 | 232 => 115 | 233 => 116 | n => n, fun | 17 => 3 | 18 => 6 | 19 => 7 | n => n⟩
theorem layFmt : Go.Proofs.LaysM.n173 Tryd.prog layFmt_ren := {
  mixed := by kernel_rfl
  f129 := Tryd.func83.trans (congrArg some (by kernel_rfl))
  f173 := Tryd.func45.trans (congrArg some (by kernel_rfl))
  f246 := Tryd.func61.trans (congrArg some (by kernel_rfl))
  f283 := Tryd.func72.trans (congrArg some (by kernel_rfl))
  f284 := Tryd.func73.trans (congrArg some (by kernel_rfl))
  f285 := Tryd.func74.trans (congrArg some (by kernel_rfl))
  f286 := Tryd.func75.trans (congrArg some (by kernel_rfl))
  f317 := Tryd.func82.trans (congrArg some (by kernel_rfl))
  f318 := Tryd.func84.trans (congrArg some (by kernel_rfl))
  f319 := Tryd.func85.trans (congrArg some (by kernel_rfl))
  f320 := Tryd.func86.trans (congrArg some (by kernel_rfl))
  f337 := Tryd.func89.trans (congrArg some (by kernel_rfl))
  f338 := Tryd.func90.trans (congrArg some (by kernel_rfl))
  t0 := Tryd.underlying0
  a0 := Tryd.isAgg0
  z0 := Tryd.sizeOf0
  v0 := Tryd.zeroValue0
  t2 := Tryd.underlying2
  a2 := Tryd.isAgg2
  z2 := Tryd.sizeOf2
  v2 := Tryd.zeroValue2
  t3 := Tryd.underlying3
  a3 := Tryd.isAgg3
  z3 := Tryd.sizeOf3
  v3 := Tryd.zeroValue3
  t4 := Tryd.underlying4
  a4 := Tryd.isAgg4
  z4 := Tryd.sizeOf4
  v4 := Tryd.zeroValue4
  t5 := Tryd.underlying5
  a5 := Tryd.isAgg5
  z5 := Tryd.sizeOf5
  v5 := Tryd.zeroValue5
  t9 := Tryd.underlying9
  a9 := Tryd.isAgg9
  z9 := Tryd.sizeOf9
  v9 := Tryd.zeroValue9
  t20 := Tryd.underlying20
  a20 := Tryd.isAgg20
  z20 := Tryd.sizeOf20
  v20 := Tryd.zeroValue20
  t37 := Tryd.underlying58
  a37 := Tryd.isAgg58
  z37 := Tryd.sizeOf58
  v37 := Tryd.zeroValue58
  t46 := Tryd.underlying78
  a46 := Tryd.isAgg78
  z46 := Tryd.sizeOf78
  v46 := Tryd.zeroValue78
  t51 := Tryd.underlying104
  a51 := Tryd.isAgg104
  z51 := Tryd.sizeOf104
  v51 := Tryd.zeroValue104
  t53 := Tryd.underlying75
  a53 := Tryd.isAgg75
  z53 := Tryd.sizeOf75
  v53 := Tryd.zeroValue75
  t171 := Tryd.underlying93
  a171 := Tryd.isAgg93
  z171 := Tryd.sizeOf93
  v171 := Tryd.zeroValue93
  t173 := Tryd.underlying96
  a173 := Tryd.isAgg96
  z173 := Tryd.sizeOf96
  v173 := Tryd.zeroValue96
  t212 := Tryd.underlying103
  a212 := Tryd.isAgg103
  z212 := Tryd.sizeOf103
  v212 := Tryd.zeroValue103
  t213 := Tryd.underlying105
  a213 := Tryd.isAgg105
  z213 := Tryd.sizeOf105
  t232 := Tryd.underlying115
  a232 := Tryd.isAgg115
  z232 := Tryd.sizeOf115
  v232 := Tryd.zeroValue115
  t233 := Tryd.underlying116
  a233 := Tryd.isAgg116
  z233 := Tryd.sizeOf116
  v233 := Tryd.zeroValue116
  g17 := by kernel_rfl
  g18 := by kernel_rfl
  g19 := by kernel_rfl
  i0 := by kernel_rfl
  i2 := by kernel_rfl
  i3 := by kernel_rfl
  i4 := by kernel_rfl
  i5 := by kernel_rfl
  i9 := by kernel_rfl
  i20 := by kernel_rfl
  i37 := by kernel_rfl
  i46 := by kernel_rfl
  i51 := by kernel_rfl
  i53 := by kernel_rfl
  i171 := by kernel_rfl
  i173 := by kernel_rfl
  i212 := by kernel_rfl
  i232 := by kernel_rfl
  i233 := by kernel_rfl
  m17 := by kernel_rfl
  m18 := by kernel_rfl
  m19 := by kernel_rfl }
def laySplit_ren : Go.Shelf.Ren := ⟨fun | 146 => 23 | 221 => 40 | 268 => 52 | 138 => 53 | 143 => 54 | 195 => 63 | 197 => 64 | 218 => 65 | 219 => 66 | 260 => 76 | 217 => 77 | 225 => 78 | 224 => 79 | 267 => 80 | 266 => 87 | 314 => 88 | n => n, fun | 9 => 9 | 31 => 28 | 3 => 3 | 4 => 4 | 0 => 0 | 105 => 85 | 21 => 21 | 5 => 5 | 46 => 78 | 119 => 108 | 139 => 111 | 138 => 110 | 146 => 112 | 51 => 104 | n => n, fun | 1 => 2 | 3 => 4 | 4 => 5 | n => n⟩
theorem laySplit : Go.Proofs.Lays.n146 Tryd.prog laySplit_ren := {
  mixed := by kernel_rfl
  f138 := Tryd.func53.trans (congrArg some (by kernel_rfl))
  f143 := Tryd.func54.trans (congrArg some (by kernel_rfl))
  f146 := Tryd.func23.trans (congrArg some (by kernel_rfl))
  f195 := Tryd.func63.trans (congrArg some (by kernel_rfl))
  f197 := Tryd.func64.trans (congrArg some (by kernel_rfl))
  f217 := Tryd.func77.trans (congrArg some (by kernel_rfl))
  f218 := Tryd.func65.trans (congrArg some (by kernel_rfl))
  f219 := Tryd.func66.trans (congrArg some (by kernel_rfl))
  f221 := Tryd.func40.trans (congrArg some (by kernel_rfl))
  f224 := Tryd.func79.trans (congrArg some (by kernel_rfl))
  f225 := Tryd.func78.trans (congrArg some (by kernel_rfl))
  f260 := Tryd.func76.trans (congrArg some (by kernel_rfl))
  f266 := Tryd.func87.trans (congrArg some (by kernel_rfl))
  f267 := Tryd.func80.trans (congrArg some (by kernel_rfl))
  f268 := Tryd.func52.trans (congrArg some (by kernel_rfl))
  f314 := Tryd.func88.trans (congrArg some (by kernel_rfl))
  t0 := Tryd.underlying0
  a0 := Tryd.isAgg0
  z0 := Tryd.sizeOf0
  v0 := Tryd.zeroValue0
  t3 := Tryd.underlying3
  a3 := Tryd.isAgg3
  z3 := Tryd.sizeOf3
  v3 := Tryd.zeroValue3
  t4 := Tryd.underlying4
  a4 := Tryd.isAgg4
  z4 := Tryd.sizeOf4
  v4 := Tryd.zeroValue4
  t5 := Tryd.underlying5
  a5 := Tryd.isAgg5
  z5 := Tryd.sizeOf5
  v5 := Tryd.zeroValue5
  t9 := Tryd.underlying9
  a9 := Tryd.isAgg9
  z9 := Tryd.sizeOf9
  v9 := Tryd.zeroValue9
  t21 := Tryd.underlying21
  a21 := Tryd.isAgg21
  z21 := Tryd.sizeOf21
  v21 := Tryd.zeroValue21
  t31 := Tryd.underlying28
  a31 := Tryd.isAgg28
  z31 := Tryd.sizeOf28
  v31 := Tryd.zeroValue28
  t46 := Tryd.underlying78
  a46 := Tryd.isAgg78
  z46 := Tryd.sizeOf78
  v46 := Tryd.zeroValue78
  t51 := Tryd.underlying104
  a51 := Tryd.isAgg104
  z51 := Tryd.sizeOf104
  v51 := Tryd.zeroValue104
  t105 := Tryd.underlying85
  a105 := Tryd.isAgg85
  z105 := Tryd.sizeOf85
  v105 := Tryd.zeroValue85
  t119 := Tryd.underlying108
  a119 := Tryd.isAgg108
  z119 := Tryd.sizeOf108
  t138 := Tryd.underlying110
  a138 := Tryd.isAgg110
  z138 := Tryd.sizeOf110
  v138 := Tryd.zeroValue110
  t139 := Tryd.underlying111
  a139 := Tryd.isAgg111
  z139 := Tryd.sizeOf111
  v139 := Tryd.zeroValue111
  t146 := Tryd.underlying112
  a146 := Tryd.isAgg112
  z146 := Tryd.sizeOf112
  v146 := Tryd.zeroValue112
  g1 := by kernel_rfl
  g3 := by kernel_rfl
  g4 := by kernel_rfl }
def layTrimP_ren : Go.Shelf.Ren := ⟨fun | 101 => 25 | 208 => 42 | 206 => 55 | n => n, fun | 9 => 9 | 4 => 4 | 3 => 3 | n => n, fun | n => n⟩
theorem layTrimP : Go.Proofs.Lays.n101 Tryd.prog layTrimP_ren := {
  mixed := by kernel_rfl
  f101 := Tryd.func25.trans (congrArg some (by kernel_rfl))
  f206 := Tryd.func55.trans (congrArg some (by kernel_rfl))
  f208 := Tryd.func42.trans (congrArg some (by kernel_rfl))
  t3 := Tryd.underlying3
  a3 := Tryd.isAgg3
  z3 := Tryd.sizeOf3
  v3 := Tryd.zeroValue3
  t4 := Tryd.underlying4
  a4 := Tryd.isAgg4
  z4 := Tryd.sizeOf4
  v4 := Tryd.zeroValue4
  t9 := Tryd.underlying9
  a9 := Tryd.isAgg9
  z9 := Tryd.sizeOf9
  v9 := Tryd.zeroValue9 }
def layPInt_ren : Go.Shelf.Ren := ⟨fun | 174 => 26 | 247 => 43 | 245 => 44 | 287 => 56 | 279 => 57 | 280 => 58 | 281 => 59 | 282 => 60 | 321 => 67 | 322 => 68 | 316 => 69 | 171 => 71 | 205 => 70 | 243 => 81 | 246 => 61 | 283 => 72 | 284 => 73 | 285 => 74 | 286 => 75 | 129 => 83 | 317 => 82 | 318 => 84 | 319 => 85 | 320 => 86 | 337 => 89 | 338 => 90 | n => n, fun | 9 => 9 | 3 => 3 | 2 => 2 | 75 => 51 | 85 => 52 | 4 => 4 | 167 => 74 | 5 => 5 | 53 => 75 | 175 => 76 | 46 => 78 | 168 => 79 | 37 => 58 | 0 => 0 | 210 => 91 | 21 => 21 | 127 => 71 | 145 => 101 | 143 => 99 | 171 => 93 | 173 => 96 | 212 => 103 | 51 => 104 | 20 => 20 | 213 => 105 | 232 => 115 | 233 => 116 | 80 => 63 | n => n, fun | 15 => 0 | 16 => 1 | 17 => 3 | 18 => 6 | 19 => 7 | n => n⟩
theorem layPInt : Go.Proofs.LaysC.n174 Tryd.prog layPInt_ren := {
  mixed := by kernel_rfl
  f129 := Tryd.func83.trans (congrArg some (by kernel_rfl))
  f171 := Tryd.func71.trans (congrArg some (by kernel_rfl))
  f174 := Tryd.func26.trans (congrArg some (by kernel_rfl))
  f205 := Tryd.func70.trans (congrArg some (by kernel_rfl))
  f243 := Tryd.func81.trans (congrArg some (by kernel_rfl))
  f245 := Tryd.func44.trans (congrArg some (by kernel_rfl))
  f246 := Tryd.func61.trans (congrArg some (by kernel_rfl))
  f247 := Tryd.func43.trans (congrArg some (by kernel_rfl))
  f279 := Tryd.func57.trans (congrArg some (by kernel_rfl))
  f280 := Tryd.func58.trans (congrArg some (by kernel_rfl))
  f281 := Tryd.func59.trans (congrArg some (by kernel_rfl))
  f282 := Tryd.func60.trans (congrArg some (by kernel_rfl))
  f283 := Tryd.func72.trans (congrArg some (by kernel_rfl))
  f284 := Tryd.func73.trans (congrArg some (by kernel_rfl))
  f285 := Tryd.func74.trans (congrArg some (by kernel_rfl))
  f286 := Tryd.func75.trans (congrArg some (by kernel_rfl))
  f287 := Tryd.func56.trans (congrArg some (by kernel_rfl))
  f316 := Tryd.func69.trans (congrArg some (by kernel_rfl))
  f317 := Tryd.func82.trans (congrArg some (by kernel_rfl))
  f318 := Tryd.func84.trans (congrArg some (by kernel_rfl))
  f319 := Tryd.func85.trans (congrArg some (by kernel_rfl))
  f320 := Tryd.func86.trans (congrArg some (by kernel_rfl))
  f321 := Tryd.func67.trans (congrArg some (by kernel_rfl))
  f322 := Tryd.func68.trans (congrArg some (by kernel_rfl))
  f337 := Tryd.func89.trans (congrArg some (by kernel_rfl))
  f338 := Tryd.func90.trans (congrArg some (by kernel_rfl))
  t0 := Tryd.underlying0
  a0 := Tryd.isAgg0
  z0 := Tryd.sizeOf0
  v0 := Tryd.zeroValue0
  t2 := Tryd.underlying2
  a2 := Tryd.isAgg2
  z2 := Tryd.sizeOf2
  v2 := Tryd.zeroValue2
  t3 := Tryd.underlying3
  a3 := Tryd.isAgg3
  z3 := Tryd.sizeOf3
  v3 := Tryd.zeroValue3
  t4 := Tryd.underlying4
  a4 := Tryd.isAgg4
  z4 := Tryd.sizeOf4
  v4 := Tryd.zeroValue4
  t5 := Tryd.underlying5
  a5 := Tryd.isAgg5
  z5 := Tryd.sizeOf5
  v5 := Tryd.zeroValue5
  t9 := Tryd.underlying9
  a9 := Tryd.isAgg9
  z9 := Tryd.sizeOf9
  v9 := Tryd.zeroValue9
  t20 := Tryd.underlying20
  a20 := Tryd.isAgg20
  z20 := Tryd.sizeOf20
  v20 := Tryd.zeroValue20
  t21 := Tryd.underlying21
  a21 := Tryd.isAgg21
  z21 := Tryd.sizeOf21
  v21 := Tryd.zeroValue21
  t37 := Tryd.underlying58
  a37 := Tryd.isAgg58
  z37 := Tryd.sizeOf58
  v37 := Tryd.zeroValue58
  t46 := Tryd.underlying78
  a46 := Tryd.isAgg78
  z46 := Tryd.sizeOf78
  v46 := Tryd.zeroValue78
  t51 := Tryd.underlying104
  a51 := Tryd.isAgg104
  z51 := Tryd.sizeOf104
  v51 := Tryd.zeroValue104
  t53 := Tryd.underlying75
  a53 := Tryd.isAgg75
  z53 := Tryd.sizeOf75
  v53 := Tryd.zeroValue75
  t75 := Tryd.underlying51
  a75 := Tryd.isAgg51
  z75 := Tryd.sizeOf51
  v75 := Tryd.zeroValue51
  t85 := Tryd.underlying52
  a85 := Tryd.isAgg52
  z85 := Tryd.sizeOf52
  v85 := Tryd.zeroValue52
  t127 := Tryd.underlying71
  a127 := Tryd.isAgg71
  z127 := Tryd.sizeOf71
  v127 := Tryd.zeroValue71
  t143 := Tryd.underlying99
  a143 := Tryd.isAgg99
  z143 := Tryd.sizeOf99
  v143 := Tryd.zeroValue99
  t145 := Tryd.underlying101
  a145 := Tryd.isAgg101
  z145 := Tryd.sizeOf101
  v145 := Tryd.zeroValue101
  t167 := Tryd.underlying74
  a167 := Tryd.isAgg74
  z167 := Tryd.sizeOf74
  v167 := Tryd.zeroValue74
  t168 := Tryd.underlying79
  a168 := Tryd.isAgg79
  z168 := Tryd.sizeOf79
  v168 := Tryd.zeroValue79
  t171 := Tryd.underlying93
  a171 := Tryd.isAgg93
  z171 := Tryd.sizeOf93
  v171 := Tryd.zeroValue93
  t173 := Tryd.underlying96
  a173 := Tryd.isAgg96
  z173 := Tryd.sizeOf96
  v173 := Tryd.zeroValue96
  t175 := Tryd.underlying76
  a175 := Tryd.isAgg76
  z175 := Tryd.sizeOf76
  v175 := Tryd.zeroValue76
  t210 := Tryd.underlying91
  a210 := Tryd.isAgg91
  z210 := Tryd.sizeOf91
  v210 := Tryd.zeroValue91
  t212 := Tryd.underlying103
  a212 := Tryd.isAgg103
  z212 := Tryd.sizeOf103
  v212 := Tryd.zeroValue103
  t213 := Tryd.underlying105
  a213 := Tryd.isAgg105
  z213 := Tryd.sizeOf105
  t232 := Tryd.underlying115
  a232 := Tryd.isAgg115
  z232 := Tryd.sizeOf115
  v232 := Tryd.zeroValue115
  t233 := Tryd.underlying116
  a233 := Tryd.isAgg116
  z233 := Tryd.sizeOf116
  v233 := Tryd.zeroValue116
  g15 := by kernel_rfl
  g16 := by kernel_rfl
  g17 := by kernel_rfl
  g18 := by kernel_rfl
  g19 := by kernel_rfl
  t80 := Tryd.underlying63
  a80 := Tryd.isAgg63
  z80 := Tryd.sizeOf63
  v80 := Tryd.zeroValue63
  i0 := by kernel_rfl
  i2 := by kernel_rfl
  i3 := by kernel_rfl
  i4 := by kernel_rfl
  i5 := by kernel_rfl
  i9 := by kernel_rfl
  i20 := by kernel_rfl
  i21 := by kernel_rfl
  i37 := by kernel_rfl
  i46 := by kernel_rfl
  i51 := by kernel_rfl
  i53 := by kernel_rfl
  i75 := by kernel_rfl
  i80 := by kernel_rfl
  i85 := by kernel_rfl
  i127 := by kernel_rfl
  i143 := by kernel_rfl
  i145 := by kernel_rfl
  i167 := by kernel_rfl
  i168 := by kernel_rfl
  i171 := by kernel_rfl
  i173 := by kernel_rfl
  i175 := by kernel_rfl
  i210 := by kernel_rfl
  i212 := by kernel_rfl
  i232 := by kernel_rfl
  i233 := by kernel_rfl
  m15 := by kernel_rfl
  m16 := by kernel_rfl
  m17 := by kernel_rfl
  m18 := by kernel_rfl
  m19 := by kernel_rfl
  c0 := by kernel_rfl
  c2 := by kernel_rfl
  c3 := by kernel_rfl
  c4 := by kernel_rfl
  c5 := by kernel_rfl
  c9 := by kernel_rfl
  c20 := by kernel_rfl
  c21 := by kernel_rfl
  c37 := by kernel_rfl
  c46 := by kernel_rfl
  c51 := by kernel_rfl
  c53 := by kernel_rfl
  c75 := by kernel_rfl
  c80 := by kernel_rfl
  c85 := by kernel_rfl
  c127 := by kernel_rfl
  c143 := by kernel_rfl
  c145 := by kernel_rfl
  c167 := by kernel_rfl
  c168 := by kernel_rfl
  c171 := by kernel_rfl
  c173 := by kernel_rfl
  c175 := by kernel_rfl
  c210 := by kernel_rfl
  c212 := by kernel_rfl
  c213 := by kernel_rfl
  c232 := by kernel_rfl
  c233 := by kernel_rfl }
def layBStr_ren : Go.Shelf.Ren := ⟨fun | 169 => 33 | n => n, fun | 70 => 57 | 9 => 9 | 0 => 0 | 72 => 60 | 37 => 58 | 127 => 71 | 3 => 3 | 5 => 5 | n => n, fun | n => n⟩
theorem layBStr : Go.Proofs.Lays.n169 Tryd.prog layBStr_ren := {
  mixed := by kernel_rfl
  f169 := Tryd.func33.trans (congrArg some (by kernel_rfl))
  t0 := Tryd.underlying0
  a0 := Tryd.isAgg0
  z0 := Tryd.sizeOf0
  v0 := Tryd.zeroValue0
  t3 := Tryd.underlying3
  a3 := Tryd.isAgg3
  z3 := Tryd.sizeOf3
  v3 := Tryd.zeroValue3
  t9 := Tryd.underlying9
  a9 := Tryd.isAgg9
  z9 := Tryd.sizeOf9
  v9 := Tryd.zeroValue9
  t37 := Tryd.underlying58
  a37 := Tryd.isAgg58
  z37 := Tryd.sizeOf58
  v37 := Tryd.zeroValue58
  t70 := Tryd.underlying57
  a70 := Tryd.isAgg57
  z70 := Tryd.sizeOf57
  v70 := Tryd.zeroValue57
  t72 := Tryd.underlying60
  a72 := Tryd.isAgg60
  z72 := Tryd.sizeOf60
  v72 := Tryd.zeroValue60
  t127 := Tryd.underlying71
  a127 := Tryd.isAgg71
  z127 := Tryd.sizeOf71
  v127 := Tryd.zeroValue71 }
end
end Go.Proofs.YtbamachgomdjkaaDoor
