/-
  The runs of the functions of this seat, in open form. Printed by a program of mine (gen.py).
-/
import Derived.Test.YtpmpdapafoifiaaDoorProg
import Derived.Test.YtpmpdapafoifiaaDoorEngLib
import Derived.Shelf.Strconv.Itoa4
namespace Go.Proofs.YtpmpdapafoifiaaDoor
open Go Go.Eng
set_option linter.unusedVariables false

@[simp] abbrev n_laws_FnExactFractionText : Nat := 3
@[simp] abbrev n_laws_FnExactModelText : Nat := 4
@[simp] abbrev n_laws_FnExactSymbolsText : Nat := 5
@[simp] abbrev n_spec_FractionText : Nat := 6
@[simp] abbrev n_laws_toFraction : Nat := 7
@[simp] abbrev n_impl_FractionText : Nat := 8
@[simp] abbrev n_laws_szModel : Nat := 9
@[simp] abbrev n_spec_ModelText : Nat := 10
@[simp] abbrev n_laws_toModel : Nat := 11
@[simp] abbrev n_impl_ModelText : Nat := 12
@[simp] abbrev n_laws_eqModel : Nat := 13
@[simp] abbrev n_laws_szSymbolS : Nat := 14
@[simp] abbrev n_spec_SymbolsText : Nat := 15
@[simp] abbrev n_laws_toSymbolS : Nat := 16
@[simp] abbrev n_impl_SymbolsText : Nat := 17
@[simp] abbrev n_laws_eqSymbolS : Nat := 18
@[simp] abbrev n_spec_l22Ok : Nat := 19
@[simp] abbrev n_spec_l22Text : Nat := 20
@[simp] abbrev n_impl_ValidFraction : Nat := 21
@[simp] abbrev n_impl_Decimal : Nat := 22
@[simp] abbrev n_laws_szBigramS : Nat := 23
@[simp] abbrev n_spec_l18Ok : Nat := 24
@[simp] abbrev n_spec_l18Text : Nat := 25
@[simp] abbrev n_laws_toBigramS : Nat := 26
@[simp] abbrev n_impl_ValidModel : Nat := 27
@[simp] abbrev n_strings_Builder_WriteString : Nat := 28
@[simp] abbrev n_strings_Builder_String : Nat := 29
@[simp] abbrev n_laws_eqBigramS : Nat := 30
@[simp] abbrev n_laws_szSymbol : Nat := 31
@[simp] abbrev n_spec_l20Ok : Nat := 32
@[simp] abbrev n_spec_l20Text : Nat := 33
@[simp] abbrev n_laws_toSymbol : Nat := 34
@[simp] abbrev n_impl_ValidSymbols : Nat := 35
@[simp] abbrev n_laws_eqSymbol : Nat := 36
@[simp] abbrev n_spec_l00In : Nat := 37
@[simp] abbrev n_spec_l22Gcd : Nat := 38
@[simp] abbrev n_spec_l05Size : Nat := 39
@[simp] abbrev n_spec_l01Dec : Nat := 40
@[simp] abbrev n_impl_within : Nat := 41
@[simp] abbrev n_impl_gcd : Nat := 42
@[simp] abbrev n_strconv_FormatInt : Nat := 43
@[simp] abbrev n_laws_szBigram : Nat := 44
@[simp] abbrev n_spec_l18Bigram : Nat := 45
@[simp] abbrev n_spec_l18Before : Nat := 46
@[simp] abbrev n_laws_toBigram : Nat := 47
@[simp] abbrev n_impl_validBigram : Nat := 48
@[simp] abbrev n_impl_compareBigrams : Nat := 49
@[simp] abbrev n_impl_isCost : Nat := 50
@[simp] abbrev n_strings_Builder_copyCheck : Nat := 51
@[simp] abbrev n_laws_eqBigram : Nat := 52
@[simp] abbrev n_spec_IsLabel : Nat := 53
@[simp] abbrev n_spec_l02Box : Nat := 54
@[simp] abbrev n_laws_toBox : Nat := 55
@[simp] abbrev n_slices_ContainsFunc_impl_Symbol_impl_Symbol : Nat := 56
@[simp] abbrev n_impl_ValidSymbols_1 : Nat := 57
@[simp] abbrev n_impl_IsLabel : Nat := 58
@[simp] abbrev n_impl_ValidBox : Nat := 59
@[simp] abbrev n_laws_eqBox : Nat := 60
@[simp] abbrev n_impl_abs : Nat := 61
@[simp] abbrev n_internal_strconv_FormatInt : Nat := 62
@[simp] abbrev n_spec_l18First : Nat := 63
@[simp] abbrev n_spec_IsWord : Nat := 64
@[simp] abbrev n_impl_IsWord : Nat := 65
@[simp] abbrev n_cmp_Or_int : Nat := 66
@[simp] abbrev n_cmp_Compare_string : Nat := 67
@[simp] abbrev n_spec_l11Label : Nat := 69
@[simp] abbrev n_slices_IndexFunc_impl_Symbol_impl_Symbol : Nat := 70
@[simp] abbrev n_impl_isLetter : Nat := 71
@[simp] abbrev n_strings_Contains : Nat := 72
@[simp] abbrev n_internal_strconv_small : Nat := 73
@[simp] abbrev n_internal_strconv_numDigits : Nat := 74
@[simp] abbrev n_internal_strconv_formatBase10 : Nat := 75
@[simp] abbrev n_internal_strconv_formatBits : Nat := 76
@[simp] abbrev n_spec_l01Small : Nat := 77
@[simp] abbrev n_cmp_isNaN_string : Nat := 78
@[simp] abbrev n_strings_Index : Nat := 79
@[simp] abbrev n_internal_strconv_log10Pow2 : Nat := 80
@[simp] abbrev n_math_bits_Len64 : Nat := 81
@[simp] abbrev n_internal_strconv_bool2_int : Nat := 82
@[simp] abbrev n_internal_strconv_isPowerOfTwo : Nat := 83
@[simp] abbrev n_math_bits_TrailingZeros : Nat := 84
@[simp] abbrev n_internal_stringslite_Index : Nat := 85
@[simp] abbrev n_math_bits_TrailingZeros32 : Nat := 86
@[simp] abbrev n_math_bits_TrailingZeros64 : Nat := 87
@[simp] abbrev n_internal_stringslite_IndexByte : Nat := 88
@[simp] abbrev n_internal_bytealg_IndexString : Nat := 89
@[simp] abbrev n_internal_bytealg_Cutover : Nat := 90
@[simp] abbrev n_internal_bytealg_IndexRabinKarp_string : Nat := 91
@[simp] abbrev n_internal_bytealg_IndexByteString : Nat := 92
@[simp] abbrev n_internal_bytealg_hashStr_string : Nat := 93
@[simp] abbrev n_gosem_cut_vars : Nat := 116
theorem mixed : Tryd.prog.follows .mixedOrders = true := by kernel_rfl
abbrev atrr (c : Code) : Code := (codeR (codeR c))
abbrev atrrr (c : Code) : Code := (codeR (codeR (codeR c)))
abbrev atrlll (c : Code) : Code := (codeL (codeL (codeL (codeR c))))
abbrev atrrlrll (c : Code) : Code := (codeL (codeL (codeR (codeL (codeR (codeR c))))))
theorem hb_laws_FnExactFractionText : HasBody Tryd.prog n_laws_FnExactFractionText := ⟨Tryd.f3, _, Tryd.func3, rfl, by decide⟩
theorem e_laws_FnExactFractionText (env : Nat → Contract) (x0 : AV) (h : Heap) : denFn Tryd.prog env n_laws_FnExactFractionText [x0] h = obind2 (aBox (AV.cells x0) h) fun v1 h2 => obind (aLoad true 2 v1 h2) fun v3 => obind2 (aCall (env n_laws_toFraction) [v3] h2) fun v4 h5 => obind2 (aCall (env n_spec_FractionText) [v4] h5) fun v6 h7 => obind (aLoad true 2 v1 h7) fun v8 => obind2 (aCall (env n_laws_toFraction) [v8] h7) fun v9 h10 => obind2 (aCall (env n_impl_FractionText) [v9] h10) fun v11 h12 => obind (aCmp .neq .plain v11 v6) fun v13 => condB v13 (some ((bv false), h12)) (some ((bv true), h12)) := by kernel_rfl
theorem hb_spec_FractionText : HasBody Tryd.prog n_spec_FractionText := ⟨Tryd.f6, _, Tryd.func6, rfl, by decide⟩
theorem e_spec_FractionText (env : Nat → Contract) (x0 : AV) (h : Heap) : denFn Tryd.prog env n_spec_FractionText [x0] h = obind2 (aBox (AV.cells x0) h) fun v1 h2 => obind (aLoad true 2 v1 h2) fun v3 => obind2 (aCall (env n_spec_l22Ok) [v3] h2) fun v4 h5 => obind (aUn .not v4) fun v6 => condB v6 (some ((sv ⟨#[]⟩), h5)) (obind (aLoad true 2 v1 h5) fun v7 => obind2 (aCall (env n_spec_l22Text) [v7] h5) fun v8 h9 => some (v8, h9)) := by kernel_rfl
theorem hb_laws_toFraction : HasBody Tryd.prog n_laws_toFraction := ⟨Tryd.f7, _, Tryd.func7, rfl, by decide⟩
theorem e_laws_toFraction (env : Nat → Contract) (x0 : AV) (h : Heap) : denFn Tryd.prog env n_laws_toFraction [x0] h = obind2 (aBox (AV.cells x0) h) fun v1 h2 => obind2 (aBox [(iv 0), (iv 0)] h2) fun v3 h4 => obind2 (aBox [(iv 0), (iv 0)] h4) fun v5 h6 => obind (aFieldAddr 0 v1) fun v7 => obind (aLoad false 1 v7 h6) fun v8 => obind (aFieldAddr 0 v5) fun v9 => obind (aStore 1 v9 v8 h6) fun h10 => obind (aFieldAddr 1 v1) fun v11 => obind (aLoad false 1 v11 h10) fun v12 => obind (aFieldAddr 1 v5) fun v13 => obind (aStore 1 v13 v12 h10) fun h14 => obind (aLoad true 2 v5 h14) fun v15 => obind (aStore 2 v3 v15 h14) fun h16 => retL [.c true 2 v3] h16 := by kernel_rfl
theorem hb_impl_FractionText : HasBody Tryd.prog n_impl_FractionText := ⟨Tryd.f8, _, Tryd.func8, rfl, by decide⟩
theorem e_impl_FractionText (env : Nat → Contract) (x0 : AV) (h : Heap) : denFn Tryd.prog env n_impl_FractionText [x0] h = obind2 (aBox (AV.cells x0) h) fun v1 h2 => obind (aLoad true 2 v1 h2) fun v3 => obind2 (aCall (env n_impl_ValidFraction) [v3] h2) fun v4 h5 => obind (aUn .not v4) fun v6 => condB v6 (some ((sv ⟨#[]⟩), h5)) (obind (aFieldAddr 1 v1) fun v7 => obind (aLoad false 1 v7 h5) fun v8 => obind (aCmp .eql .plain v8 (iv 1)) fun v9 => condB v9 (obind (aFieldAddr 0 v1) fun v10 => obind (aLoad false 1 v10 h5) fun v11 => obind2 (aCall (env n_impl_Decimal) [v11] h5) fun v12 h13 => some (v12, h13)) (obind (aFieldAddr 0 v1) fun v14 => obind (aLoad false 1 v14 h5) fun v15 => obind2 (aCallQ (env n_impl_Decimal) [v15] h5) fun v16 h17 => obind (aBin .add v16 (sv ⟨#[47]⟩)) fun v18 => obind (aFieldAddr 1 v1) fun v19 => obind (aLoad false 1 v19 h17) fun v20 => obind2 (aCallQ (env n_impl_Decimal) [v20] h17) fun v21 h22 => obind (aBin .add v18 v21) fun v23 => some (v23, h22))) := by kernel_rfl
theorem hb_spec_l22Ok : HasBody Tryd.prog n_spec_l22Ok := ⟨Tryd.f19, _, Tryd.func19, rfl, by decide⟩
theorem e_spec_l22Ok (env : Nat → Contract) (x0 : AV) (h : Heap) : denFn Tryd.prog env n_spec_l22Ok [x0] h = obind2 (aBox (AV.cells x0) h) fun v1 h2 => obind (aFieldAddr 1 v1) fun v3 => obind (aLoad false 1 v3 h2) fun v4 => obind2 (aCallQ (env n_spec_l00In) [v4, (iv 1), (iv 1000000000)] h2) fun v5 h6 => obind2 (guardB v5 true (obind (aFieldAddr 0 v1) fun v7 => some (v7, h6)) (some (und, h6))) fun v8 h9 => obind2 (guardB v5 true (obind (aLoad false 1 v8 h9) fun v10 => some (v10, h9)) (some (und, h9))) fun v11 h12 => obind2 (guardB v5 true (obind2 (aCallQ (env n_spec_l00In) [v11, (iv (-1000000000)), (iv 1000000000)] h12) fun v13 h14 => some (v13, h14)) (some (und, h12))) fun v15 h16 => obind (aPick v5 v15 (bv false)) fun v17 => obind2 (guardB v17 true (obind (aFieldAddr 0 v1) fun v18 => some (v18, h16)) (some (und, h16))) fun v19 h20 => obind2 (guardB v17 true (obind (aLoad false 1 v19 h20) fun v21 => some (v21, h20)) (some (und, h20))) fun v22 h23 => obind2 (guardB v17 true (obind2 (aCallQ (env n_spec_l05Size) [v22] h23) fun v24 h25 => some (v24, h25)) (some (und, h23))) fun v26 h27 => obind2 (guardB v17 true (obind (aFieldAddr 1 v1) fun v28 => some (v28, h27)) (some (und, h27))) fun v29 h30 => obind2 (guardB v17 true (obind (aLoad false 1 v29 h30) fun v31 => some (v31, h30)) (some (und, h30))) fun v32 h33 => obind2 (guardB v17 true (obind2 (aCallQ (env n_spec_l22Gcd) [v26, v32] h33) fun v34 h35 => some (v34, h35)) (some (und, h33))) fun v36 h37 => obind2 (guardB v17 true (obind (aCmp .eql .plain v36 (iv 1)) fun v38 => some (v38, h37)) (some (und, h37))) fun v39 h40 => obind (aPick v17 v39 (bv false)) fun v41 => some (v41, h40) := by kernel_rfl
theorem hb_spec_l22Text : HasBody Tryd.prog n_spec_l22Text := ⟨Tryd.f20, _, Tryd.func20, rfl, by decide⟩
theorem e_spec_l22Text (env : Nat → Contract) (x0 : AV) (h : Heap) : denFn Tryd.prog env n_spec_l22Text [x0] h = obind2 (aBox (AV.cells x0) h) fun v1 h2 => obind (aFieldAddr 1 v1) fun v3 => obind (aLoad false 1 v3 h2) fun v4 => obind (aCmp .eql .plain v4 (iv 1)) fun v5 => condB v5 (obind (aFieldAddr 0 v1) fun v6 => obind (aLoad false 1 v6 h2) fun v7 => obind2 (aCall (env n_spec_l01Dec) [v7] h2) fun v8 h9 => some (v8, h9)) (obind (aFieldAddr 0 v1) fun v10 => obind (aLoad false 1 v10 h2) fun v11 => obind2 (aCallQ (env n_spec_l01Dec) [v11] h2) fun v12 h13 => obind (aBin .add v12 (sv ⟨#[47]⟩)) fun v14 => obind (aFieldAddr 1 v1) fun v15 => obind (aLoad false 1 v15 h13) fun v16 => obind2 (aCallQ (env n_spec_l01Dec) [v16] h13) fun v17 h18 => obind (aBin .add v14 v17) fun v19 => some (v19, h18)) := by kernel_rfl
theorem hb_impl_ValidFraction : HasBody Tryd.prog n_impl_ValidFraction := ⟨Tryd.f21, _, Tryd.func21, rfl, by decide⟩
theorem e_impl_ValidFraction (env : Nat → Contract) (x0 : AV) (h : Heap) : denFn Tryd.prog env n_impl_ValidFraction [x0] h = obind2 (aBox (AV.cells x0) h) fun v1 h2 => obind (aFieldAddr 0 v1) fun v3 => obind (aLoad false 1 v3 h2) fun v4 => obind2 (aCall (env n_impl_within) [v4, (iv (-1000000000)), (iv 1000000000)] h2) fun v5 h6 => obind2 (guardB v5 true (obind (aFieldAddr 1 v1) fun v7 => obind (aLoad false 1 v7 h6) fun v8 => obind2 (aCall (env n_impl_within) [v8, (iv 1), (iv 1000000000)] h6) fun v9 h10 => some (v9, h10)) (some (und, h6))) fun v11 h12 => obind (aPick v5 v11 (bv false)) fun v13 => obind2 (guardB v13 true (obind (aFieldAddr 0 v1) fun v14 => obind (aLoad false 1 v14 h12) fun v15 => obind (aFieldAddr 1 v1) fun v16 => obind (aLoad false 1 v16 h12) fun v17 => obind2 (aCall (env n_impl_gcd) [v15, v17] h12) fun v18 h19 => obind (aCmp .eql .plain v18 (iv 1)) fun v20 => some (v20, h19)) (some (und, h12))) fun v21 h22 => obind (aPick v13 v21 (bv false)) fun v23 => some (v23, h22) := by kernel_rfl
theorem hb_impl_Decimal : HasBody Tryd.prog n_impl_Decimal := ⟨Tryd.f22, _, Tryd.func22, rfl, by decide⟩
theorem e_impl_Decimal (env : Nat → Contract) (x0 : AV) (h : Heap) : denFn Tryd.prog env n_impl_Decimal [x0] h = obind2 (aCall (env n_strconv_FormatInt) [x0, (iv 10)] h) fun v1 h2 => some (v1, h2) := by kernel_rfl
theorem hb_spec_l00In : HasBody Tryd.prog n_spec_l00In := ⟨Tryd.f37, _, Tryd.func37, rfl, by decide⟩
theorem e_spec_l00In (env : Nat → Contract) (x0 x1 x2 : AV) (h : Heap) : denFn Tryd.prog env n_spec_l00In [x0, x1, x2] h = obind (aBin .geq x0 x1) fun v1 => obind2 (guardB v1 true (obind (aBin .leq x0 x2) fun v2 => some (v2, h)) (some (und, h))) fun v3 h4 => obind (aPick v1 v3 (bv false)) fun v5 => some (v5, h4) := by kernel_rfl
noncomputable abbrev c_spec_l22Gcd : Code := (Tryd.f38.body).getD .skip
noncomputable abbrev nm_spec_l22Gcd : List Bool := namedOf Tryd.f38
theorem hb_spec_l22Gcd : HasBody Tryd.prog n_spec_l22Gcd := ⟨Tryd.f38, _, Tryd.func38, rfl, by decide⟩
abbrev hm0_spec_l22Gcd : List Bool := [true, true, true, true, true, false, false, false, false, false, false, true]
abbrev xm0_spec_l22Gcd : List Bool := [true, true, true, true, true, false, false, false, false, false, false, true]
noncomputable def lb0_spec_l22Gcd (env : Nat → Contract) : TM → Heap → Option Res := fun tm h => denC Tryd.prog env nm_spec_l22Gcd (atrlll c_spec_l22Gcd) Res tm h fun e tm h => some (e, tm, h)
noncomputable def lk0_spec_l22Gcd (env : Nat → Contract) : AX → TM → Heap → Option (AV × Heap) := (kBlock 0 (kSeq Tryd.prog env nm_spec_l22Gcd (atrr c_spec_l22Gcd) _ (kRet Tryd.prog Tryd.f38.results.toList)))
theorem e_spec_l22Gcd (env : Nat → Contract) (x0 x1 : AV) (h : Heap) : denFn Tryd.prog env n_spec_l22Gcd [x0, x1] h = obind (loopP hm0_spec_l22Gcd xm0_spec_l22Gcd (lb0_spec_l22Gcd env) [x0, x1, und, und, (iv 0), .top, .top, .top, .top, .top, .top, und] h) fun r => lk0_spec_l22Gcd env r.1 r.2.1 r.2.2 := by kernel_rfl
theorem e_lb0_spec_l22Gcd (env : Nat → Contract) (y0 y1 y2 y3 y4 y11 : AV) (h : Heap) : lb0_spec_l22Gcd env [y0, y1, y2, y3, y4, .top, .top, .top, .top, .top, .top, y11] h = obind (aCmp .neq .plain y1 (iv 0)) fun v1 => condB v1 (obind (aBin .rem y0 y1) fun v2 => some (.normal, [y1, v2, y2, y3, y4, y1, v1, y1, y0, y1, v2, y11], h)) (some (.exit 0, [y0, y1, y2, y3, y4, y1, v1, .top, .top, .top, .top, y11], h)) := by kernel_rfl
theorem e_lk0x0_spec_l22Gcd (env : Nat → Contract) (z0 z1 z2 z3 z4 z11 : AV) (h : Heap) : lk0_spec_l22Gcd env (.exit 0) [z0, z1, z2, z3, z4, .top, .top, .top, .top, .top, .top, z11] h = some (z0, h) := by kernel_rfl
theorem hb_spec_l05Size : HasBody Tryd.prog n_spec_l05Size := ⟨Tryd.f39, _, Tryd.func39, rfl, by decide⟩
theorem e_spec_l05Size (env : Nat → Contract) (x0 : AV) (h : Heap) : denFn Tryd.prog env n_spec_l05Size [x0] h = obind (aBin .lss x0 (iv 0)) fun v1 => condB v1 (obind (aUn .neg x0) fun v2 => some (v2, h)) (some (x0, h)) := by kernel_rfl
noncomputable abbrev c_spec_l01Dec : Code := (Tryd.f40.body).getD .skip
noncomputable abbrev nm_spec_l01Dec : List Bool := namedOf Tryd.f40
theorem hb_spec_l01Dec : HasBody Tryd.prog n_spec_l01Dec := ⟨Tryd.f40, _, Tryd.func40, rfl, by decide⟩
abbrev hm0_spec_l01Dec : List Bool := [true, true, true, true, true, false, true, true, false, false, false, false, false, false, false, false, false, false, false, false, false, false, false, false, true, true, true, true, true, true, true, true, true, true]
abbrev xm0_spec_l01Dec : List Bool := [true, true, true, true, true, true, true, true, false, false, false, false, false, false, false, false, false, false, false, false, false, false, false, false, true, true, true, true, true, true, true, true, true, true]
noncomputable def lb0_spec_l01Dec (env : Nat → Contract) : TM → Heap → Option Res := fun tm h => denC Tryd.prog env nm_spec_l01Dec (atrrlrll c_spec_l01Dec) Res tm h fun e tm h => some (e, tm, h)
noncomputable def lk0_spec_l01Dec (env : Nat → Contract) : AX → TM → Heap → Option (AV × Heap) := (kBlock 0 (kSeq Tryd.prog env nm_spec_l01Dec (atrrr c_spec_l01Dec) _ (kRet Tryd.prog Tryd.f40.results.toList)))
theorem e_spec_l01Dec (env : Nat → Contract) (x0 : AV) (h : Heap) : denFn Tryd.prog env n_spec_l01Dec [x0] h = obind2 (aBuildSlice [(.sc (.int .u8 0))] 0 [] h) fun v1 h2 => obind (loopP hm0_spec_l01Dec xm0_spec_l01Dec (lb0_spec_l01Dec env) [x0, und, (sv ⟨#[]⟩), v1, x0, .top, v1, x0, .top, .top, .top, .top, .top, .top, .top, .top, .top, .top, .top, .top, .top, .top, .top, .top, und, und, und, und, und, und, und, und, und, und] h2) fun r => lk0_spec_l01Dec env r.1 r.2.1 r.2.2 := by kernel_rfl
theorem e_lb0_spec_l01Dec (env : Nat → Contract) (y0 y1 y2 y3 y4 y6 y7 y24 y25 y26 y27 y28 y29 y30 y31 y32 y33 : AV) (h : Heap) : lb0_spec_l01Dec env [y0, y1, y2, y3, y4, .top, y6, y7, .top, .top, .top, .top, .top, .top, .top, .top, .top, .top, .top, .top, .top, .top, .top, .top, y24, y25, y26, y27, y28, y29, y30, y31, y32, y33] h = obind (aCmp .neq .plain y4 (iv 0)) fun v3 => condB v3 (obind (aBin .rem y4 (iv 10)) fun v4 => obind (aBin .lss v4 (iv 0)) fun v5 => condB v5 (obind (aUn .neg v4) fun v6 => obind (aBin .add (iv 48) v6) fun v7 => obind (aConvInt .u8 v7) fun v8 => obind2 (aBuildSlice [(.sc (.int .u8 0))] 1 [(0, v8)] h) fun v9 h10 => obind2 (aAppend false 1 1 v9 y3 h10) fun v11 h12 => obind (aBin .quo y4 (iv 10)) fun v13 => some (.normal, [y0, y1, y2, v11, v13, v6, y6, y7, y4, v3, y4, v13, y4, v4, v4, v5, v4, v6, v6, v7, v8, v9, y3, v11, y24, y25, y26, y27, y28, y29, y30, y31, y32, y33], h12)) (obind (aBin .add (iv 48) v4) fun v14 => obind (aConvInt .u8 v14) fun v15 => obind2 (aBuildSlice [(.sc (.int .u8 0))] 1 [(0, v15)] h) fun v16 h17 => obind2 (aAppend false 1 1 v16 y3 h17) fun v18 h19 => obind (aBin .quo y4 (iv 10)) fun v20 => some (.normal, [y0, y1, y2, v18, v20, v4, y6, y7, y4, v3, y4, v20, y4, v4, v4, v5, .top, .top, v4, v14, v15, v16, y3, v18, y24, y25, y26, y27, y28, y29, y30, y31, y32, y33], h19))) (some (.exit 0, [y0, y1, y2, y3, y4, .top, y6, y7, y4, v3, .top, .top, .top, .top, .top, .top, .top, .top, .top, .top, .top, .top, .top, .top, y24, y25, y26, y27, y28, y29, y30, y31, y32, y33], h)) := by kernel_rfl
theorem e_lk0x0_spec_l01Dec (env : Nat → Contract) (z0 z1 z2 z3 z4 z5 z6 z7 z24 z25 z26 z27 z28 z29 z30 z31 z32 z33 : AV) (h : Heap) : lk0_spec_l01Dec env (.exit 0) [z0, z1, z2, z3, z4, z5, z6, z7, .top, .top, .top, .top, .top, .top, .top, .top, .top, .top, .top, .top, .top, .top, .top, .top, z24, z25, z26, z27, z28, z29, z30, z31, z32, z33] h = obind (aLenK .slice z3) fun v21 => obind (aCmp .eql .plain v21 (iv 0)) fun v22 => condB v22 (some ((sv ⟨#[48]⟩), h)) (obind (aBin .lss z0 (iv 0)) fun v23 => condB v23 (obind (aConvStr z3 h) fun v24 => obind (aBin .add (sv ⟨#[45]⟩) v24) fun v25 => some (v25, h)) (obind (aConvStr z3 h) fun v26 => some (v26, h))) := by kernel_rfl
theorem hb_impl_within : HasBody Tryd.prog n_impl_within := ⟨Tryd.f41, _, Tryd.func41, rfl, by decide⟩
theorem e_impl_within (env : Nat → Contract) (x0 x1 x2 : AV) (h : Heap) : denFn Tryd.prog env n_impl_within [x0, x1, x2] h = obind (aBin .geq x0 x1) fun v1 => obind2 (guardB v1 true (obind (aBin .leq x0 x2) fun v2 => some (v2, h)) (some (und, h))) fun v3 h4 => obind (aPick v1 v3 (bv false)) fun v5 => some (v5, h4) := by kernel_rfl
noncomputable abbrev c_impl_gcd : Code := (Tryd.f42.body).getD .skip
noncomputable abbrev nm_impl_gcd : List Bool := namedOf Tryd.f42
theorem hb_impl_gcd : HasBody Tryd.prog n_impl_gcd := ⟨Tryd.f42, _, Tryd.func42, rfl, by decide⟩
abbrev hm0_impl_gcd : List Bool := [true, true, true, true, true, false, false, false, false, false, false, true, true]
abbrev xm0_impl_gcd : List Bool := [true, true, true, true, true, false, false, false, false, false, false, true, true]
noncomputable def lb0_impl_gcd (env : Nat → Contract) : TM → Heap → Option Res := fun tm h => denC Tryd.prog env nm_impl_gcd (atrlll c_impl_gcd) Res tm h fun e tm h => some (e, tm, h)
noncomputable def lk0_impl_gcd (env : Nat → Contract) : AX → TM → Heap → Option (AV × Heap) := (kBlock 0 (kSeq Tryd.prog env nm_impl_gcd (atrr c_impl_gcd) _ (kRet Tryd.prog Tryd.f42.results.toList)))
theorem e_impl_gcd (env : Nat → Contract) (x0 x1 : AV) (h : Heap) : denFn Tryd.prog env n_impl_gcd [x0, x1] h = obind (loopP hm0_impl_gcd xm0_impl_gcd (lb0_impl_gcd env) [x0, x1, und, und, (iv 0), .top, .top, .top, .top, .top, .top, und, und] h) fun r => lk0_impl_gcd env r.1 r.2.1 r.2.2 := by kernel_rfl
theorem e_lb0_impl_gcd (env : Nat → Contract) (y0 y1 y2 y3 y4 y11 y12 : AV) (h : Heap) : lb0_impl_gcd env [y0, y1, y2, y3, y4, .top, .top, .top, .top, .top, .top, y11, y12] h = obind (aCmp .neq .plain y1 (iv 0)) fun v1 => condB v1 (obind (aBin .rem y0 y1) fun v2 => some (.normal, [y1, v2, y2, y3, y4, y1, v1, y1, y0, y1, v2, y11, y12], h)) (some (.exit 0, [y0, y1, y2, y3, y4, y1, v1, .top, .top, .top, .top, y11, y12], h)) := by kernel_rfl
theorem e_lk0x0_impl_gcd (env : Nat → Contract) (z0 z1 z2 z3 z4 z11 z12 : AV) (h : Heap) : lk0_impl_gcd env (.exit 0) [z0, z1, z2, z3, z4, .top, .top, .top, .top, .top, .top, z11, z12] h = obind2 (aCall (env n_impl_abs) [z0] h) fun v3 h4 => some (v3, h4) := by kernel_rfl
theorem hb_strconv_FormatInt : HasBody Tryd.prog n_strconv_FormatInt := ⟨Tryd.f43, _, Tryd.func43, rfl, by decide⟩
theorem e_strconv_FormatInt (env : Nat → Contract) (x0 x1 : AV) (h : Heap) : denFn Tryd.prog env n_strconv_FormatInt [x0, x1] h = obind2 (aCall (env n_internal_strconv_FormatInt) [x0, x1] h) fun v1 h2 => some (v1, h2) := by kernel_rfl
theorem hb_impl_abs : HasBody Tryd.prog n_impl_abs := ⟨Tryd.f61, _, Tryd.func61, rfl, by decide⟩
theorem e_impl_abs (env : Nat → Contract) (x0 : AV) (h : Heap) : denFn Tryd.prog env n_impl_abs [x0] h = obind (aBin .lss x0 (iv 0)) fun v1 => condB v1 (obind (aUn .neg x0) fun v2 => some (v2, h)) (some (x0, h)) := by kernel_rfl
section
open Go.Proofs Go.Shelf
def layFmt_ren : Go.Shelf.Ren := ⟨fun | 173 => 43 | 246 => 62 | 283 => 73 | 284 => 74 | 285 => 75 | 286 => 76 | 129 => 81 | 317 => 80 | 318 => 82 | 319 => 83 | 320 => 84 | 337 => 86 | 338 => 87 | n => n, fun | 2 => 2 | 3 => 3 | 9 => 9 | 4 => 4 | 171 => 106 | 0 => 0 | 53 => 107 | 37 => 55 | 5 => 5 | 173 => 110 | 212 => 115 | 51 => 116 | 20 => 20 | 213 => 117 | 46 => 119 | 232 => 123 | 233 => 124 | n => n, fun | 17 => 0 | 18 => 2 | 19 => 3 | n => n⟩
theorem layFmt : Go.Proofs.LaysM.n173 Tryd.prog layFmt_ren := {
  mixed := by kernel_rfl
  f129 := Tryd.func81.trans (congrArg some (by kernel_rfl))
  f173 := Tryd.func43.trans (congrArg some (by kernel_rfl))
  f246 := Tryd.func62.trans (congrArg some (by kernel_rfl))
  f283 := Tryd.func73.trans (congrArg some (by kernel_rfl))
  f284 := Tryd.func74.trans (congrArg some (by kernel_rfl))
  f285 := Tryd.func75.trans (congrArg some (by kernel_rfl))
  f286 := Tryd.func76.trans (congrArg some (by kernel_rfl))
  f317 := Tryd.func80.trans (congrArg some (by kernel_rfl))
  f318 := Tryd.func82.trans (congrArg some (by kernel_rfl))
  f319 := Tryd.func83.trans (congrArg some (by kernel_rfl))
  f320 := Tryd.func84.trans (congrArg some (by kernel_rfl))
  f337 := Tryd.func86.trans (congrArg some (by kernel_rfl))
  f338 := Tryd.func87.trans (congrArg some (by kernel_rfl))
  t0 := Tryd.underlying0
  a0 := Tryd.isAgg0
  z0 := Tryd.sizeOf0
  v0 := Tryd.zeroValue0
  t2 := Tryd.underlying2
  a2 := Tryd.isAgg2
  z2 := Tryd.sizeOf2
  v2 := Tryd.zeroValue2
  t3 := Tryd.underlying3
  a3 := Tryd.isAgg3
  z3 := Tryd.sizeOf3
  v3 := Tryd.zeroValue3
  t4 := Tryd.underlying4
  a4 := Tryd.isAgg4
  z4 := Tryd.sizeOf4
  v4 := Tryd.zeroValue4
  t5 := Tryd.underlying5
  a5 := Tryd.isAgg5
  z5 := Tryd.sizeOf5
  v5 := Tryd.zeroValue5
  t9 := Tryd.underlying9
  a9 := Tryd.isAgg9
  z9 := Tryd.sizeOf9
  v9 := Tryd.zeroValue9
  t20 := Tryd.underlying20
  a20 := Tryd.isAgg20
  z20 := Tryd.sizeOf20
  v20 := Tryd.zeroValue20
  t37 := Tryd.underlying55
  a37 := Tryd.isAgg55
  z37 := Tryd.sizeOf55
  v37 := Tryd.zeroValue55
  t46 := Tryd.underlying119
  a46 := Tryd.isAgg119
  z46 := Tryd.sizeOf119
  v46 := Tryd.zeroValue119
  t51 := Tryd.underlying116
  a51 := Tryd.isAgg116
  z51 := Tryd.sizeOf116
  v51 := Tryd.zeroValue116
  t53 := Tryd.underlying107
  a53 := Tryd.isAgg107
  z53 := Tryd.sizeOf107
  v53 := Tryd.zeroValue107
  t171 := Tryd.underlying106
  a171 := Tryd.isAgg106
  z171 := Tryd.sizeOf106
  v171 := Tryd.zeroValue106
  t173 := Tryd.underlying110
  a173 := Tryd.isAgg110
  z173 := Tryd.sizeOf110
  v173 := Tryd.zeroValue110
  t212 := Tryd.underlying115
  a212 := Tryd.isAgg115
  z212 := Tryd.sizeOf115
  v212 := Tryd.zeroValue115
  t213 := Tryd.underlying117
  a213 := Tryd.isAgg117
  z213 := Tryd.sizeOf117
  t232 := Tryd.underlying123
  a232 := Tryd.isAgg123
  z232 := Tryd.sizeOf123
  v232 := Tryd.zeroValue123
  t233 := Tryd.underlying124
  a233 := Tryd.isAgg124
  z233 := Tryd.sizeOf124
  v233 := Tryd.zeroValue124
  g17 := by kernel_rfl
  g18 := by kernel_rfl
  g19 := by kernel_rfl
  i0 := by kernel_rfl
  i2 := by kernel_rfl
  i3 := by kernel_rfl
  i4 := by kernel_rfl
  i5 := by kernel_rfl
  i9 := by kernel_rfl
  i20 := by kernel_rfl
  i37 := by kernel_rfl
  i46 := by kernel_rfl
  i51 := by kernel_rfl
  i53 := by kernel_rfl
  i171 := by kernel_rfl
  i173 := by kernel_rfl
  i212 := by kernel_rfl
  i232 := by kernel_rfl
  i233 := by kernel_rfl
  m17 := by kernel_rfl
  m18 := by kernel_rfl
  m19 := by kernel_rfl }
end
end Go.Proofs.YtpmpdapafoifiaaDoor
