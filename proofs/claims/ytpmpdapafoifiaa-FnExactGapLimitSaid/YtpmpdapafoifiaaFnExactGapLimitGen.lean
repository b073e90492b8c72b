/-
  The runs of the functions of this seat, in open form. Printed by a program of mine (gen.py).
-/
import Derived.Test.YtpmpdapafoifiaaProg
import Derived.Test.YtpmpdapafoifiaaEngLib
import Derived.Shelf.SortM.Plain
import Derived.Shelf.SortM.SortNone
namespace Go.Proofs.Ytpmpdapafoifiaa
open Go Go.Eng
set_option linter.unusedVariables false

@[simp] abbrev n_laws_FnExactGapLimit : Nat := 3
@[simp] abbrev n_laws_FnExactSetBigram : Nat := 4
@[simp] abbrev n_laws_FnNotes : Nat := 5
@[simp] abbrev n_spec_GapLimit : Nat := 6
@[simp] abbrev n_laws_toInt64S : Nat := 7
@[simp] abbrev n_impl_GapLimit : Nat := 8
@[simp] abbrev n_laws_eqInt64S : Nat := 9
@[simp] abbrev n_laws_szModel : Nat := 10
@[simp] abbrev n_laws_szBigram : Nat := 11
@[simp] abbrev n_spec_SetBigram : Nat := 12
@[simp] abbrev n_laws_toModel : Nat := 13
@[simp] abbrev n_laws_toBigram : Nat := 14
@[simp] abbrev n_impl_SetBigram : Nat := 15
@[simp] abbrev n_laws_eqModel : Nat := 16
@[simp] abbrev n_laws_markModel : Nat := 17
@[simp] abbrev n_laws_heldModel : Nat := 18
@[simp] abbrev n_laws_a2Long : Nat := 19
@[simp] abbrev n_spec_A2File : Nat := 20
@[simp] abbrev n_laws_a2At : Nat := 21
@[simp] abbrev n_impl_AddNote : Nat := 22
@[simp] abbrev n_spec_NotesOf : Nat := 23
@[simp] abbrev n_impl_NotesOf : Nat := 24
@[simp] abbrev n_spec_l19Gap : Nat := 25
@[simp] abbrev n_spec_l00Own : Nat := 26
@[simp] abbrev n_spec_l19Spread : Nat := 27
@[simp] abbrev n_slices_ContainsFunc_int64_int64 : Nat := 28
@[simp] abbrev n_impl_GapLimit_1 : Nat := 29
@[simp] abbrev n_impl_isGap : Nat := 30
@[simp] abbrev n_slices_Clone_int64_int64 : Nat := 31
@[simp] abbrev n_slices_Sort_int64_int64 : Nat := 32
@[simp] abbrev n_impl_spreadOf : Nat := 33
@[simp] abbrev n_laws_szBigramS : Nat := 34
@[simp] abbrev n_spec_l18Ok : Nat := 35
@[simp] abbrev n_spec_l18Bigram : Nat := 36
@[simp] abbrev n_spec_l18Put : Nat := 37
@[simp] abbrev n_laws_toBigramS : Nat := 38
@[simp] abbrev n_impl_ValidModel : Nat := 39
@[simp] abbrev n_impl_validBigram : Nat := 40
@[simp] abbrev n_slices_BinarySearchFunc_impl_Bigram_impl_Bigram_impl_Bigram : Nat := 41
@[simp] abbrev n_impl_compareBigrams : Nat := 42
@[simp] abbrev n_slices_Clone_impl_Bigram_impl_Bigram : Nat := 43
@[simp] abbrev n_slices_Insert_impl_Bigram_impl_Bigram : Nat := 44
@[simp] abbrev n_laws_eqBigramS : Nat := 45
@[simp] abbrev n_laws_markBigramS : Nat := 46
@[simp] abbrev n_laws_heldBigramS : Nat := 47
@[simp] abbrev n_spec_l03Draw : Nat := 48
@[simp] abbrev n_spec_l00From : Nat := 49
@[simp] abbrev n_impl_ValidFile : Nat := 50
@[simp] abbrev n_impl_noted : Nat := 51
@[simp] abbrev n_impl_IsName : Nat := 52
@[simp] abbrev n_impl_copyFile : Nat := 53
@[simp] abbrev n_spec_l03Ok : Nat := 54
@[simp] abbrev n_spec_l00In : Nat := 55
@[simp] abbrev n_impl_within : Nat := 56
@[simp] abbrev n_spec_l05Size : Nat := 57
@[simp] abbrev n_slices_IndexFunc_int64_int64 : Nat := 58
@[simp] abbrev n_slices_pdqsortOrdered_int64 : Nat := 59
@[simp] abbrev n_math_bits_Len : Nat := 60
@[simp] abbrev n_impl_abs : Nat := 61
@[simp] abbrev n_spec_l18Before : Nat := 62
@[simp] abbrev n_spec_l18First : Nat := 63
@[simp] abbrev n_spec_IsWord : Nat := 64
@[simp] abbrev n_impl_isCost : Nat := 65
@[simp] abbrev n_impl_IsWord : Nat := 66
@[simp] abbrev n_cmp_Or_int : Nat := 67
@[simp] abbrev n_cmp_Compare_string : Nat := 68
@[simp] abbrev n_slices_rotateRight_impl_Bigram : Nat := 70
@[simp] abbrev n_laws_eqBigram : Nat := 71
@[simp] abbrev n_laws_markText : Nat := 72
@[simp] abbrev n_spec_l00Src_pick : Nat := 73
@[simp] abbrev n_spec_l00Src_text : Nat := 74
@[simp] abbrev n_spec_l00Src_among : Nat := 75
@[simp] abbrev n_spec_l00Src_one : Nat := 76
@[simp] abbrev n_spec_l00Max : Nat := 77
@[simp] abbrev n_impl_validChannel : Nat := 78
@[simp] abbrev n_impl_indexOfChannel : Nat := 79
@[simp] abbrev n_impl_validRows : Nat := 80
@[simp] abbrev n_impl_isLetter : Nat := 81
@[simp] abbrev n_slices_Clone_impl_Channel_impl_Channel : Nat := 82
@[simp] abbrev n_slices_Clone_impl_Note_impl_Note : Nat := 83
@[simp] abbrev n_spec_l03Channel : Nat := 84
@[simp] abbrev n_spec_l03Find : Nat := 85
@[simp] abbrev n_spec_l03Row : Nat := 86
@[simp] abbrev n_spec_l03Place : Nat := 87
@[simp] abbrev n_spec_IsName : Nat := 88
@[simp] abbrev n_slices_insertionSortOrdered_int64 : Nat := 89
@[simp] abbrev n_slices_heapSortOrdered_int64 : Nat := 90
@[simp] abbrev n_slices_breakPatternsOrdered_int64 : Nat := 91
@[simp] abbrev n_slices_choosePivotOrdered_int64 : Nat := 92
@[simp] abbrev n_slices_reverseRangeOrdered_int64 : Nat := 93
@[simp] abbrev n_slices_partialInsertionSortOrdered_int64 : Nat := 94
@[simp] abbrev n_cmp_Less_int64 : Nat := 95
@[simp] abbrev n_slices_partitionEqualOrdered_int64 : Nat := 96
@[simp] abbrev n_slices_partitionOrdered_int64 : Nat := 97
@[simp] abbrev n_math_bits_Len32 : Nat := 98
@[simp] abbrev n_math_bits_Len64 : Nat := 99
@[simp] abbrev n_spec_l01Small : Nat := 100
@[simp] abbrev n_cmp_isNaN_string : Nat := 101
@[simp] abbrev n_slices_rotateLeft_impl_Bigram : Nat := 102
@[simp] abbrev n_spec_l00Src_next : Nat := 103
@[simp] abbrev n_slices_IndexFunc_impl_Channel_impl_Channel : Nat := 104
@[simp] abbrev n_impl_indexOfChannel_1 : Nat := 105
@[simp] abbrev n_spec_l03Value : Nat := 106
@[simp] abbrev n_spec_l01Digit : Nat := 107
@[simp] abbrev n_slices_siftDownOrdered_int64 : Nat := 108
@[simp] abbrev n_slices_nextPowerOfTwo : Nat := 109
@[simp] abbrev n_slices_xorshift_Next : Nat := 110
@[simp] abbrev n_slices_medianAdjacentOrdered_int64 : Nat := 111
@[simp] abbrev n_slices_medianOrdered_int64 : Nat := 112
@[simp] abbrev n_cmp_isNaN_int64 : Nat := 113
@[simp] abbrev n_slices_Reverse_impl_Bigram_impl_Bigram : Nat := 114
@[simp] abbrev n_slices_order2Ordered_int64 : Nat := 115
theorem mixed : Try.prog.follows .mixedOrders = true := by kernel_rfl
abbrev atrr (c : Code) : Code := (codeR (codeR c))
abbrev atrrr (c : Code) : Code := (codeR (codeR (codeR c)))
abbrev atrrrr (c : Code) : Code := (codeR (codeR (codeR (codeR c))))
abbrev atrlrll (c : Code) : Code := (codeL (codeL (codeR (codeL (codeR c)))))
abbrev atrrlrll (c : Code) : Code := (codeL (codeL (codeR (codeL (codeR (codeR c))))))
abbrev atrrrlrll (c : Code) : Code := (codeL (codeL (codeR (codeL (codeR (codeR (codeR c)))))))
abbrev atrrrrrrr (c : Code) : Code := (codeR (codeR (codeR (codeR (codeR (codeR (codeR c)))))))
abbrev atrrlrllrr (c : Code) : Code := (codeR (codeR (codeL (codeL (codeR (codeL (codeR (codeR c))))))))
abbrev atrrrrrrlrll (c : Code) : Code := (codeL (codeL (codeR (codeL (codeR (codeR (codeR (codeR (codeR (codeR c))))))))))
abbrev atrrlrllrllrrr (c : Code) : Code := (codeR (codeR (codeR (codeL (codeL (codeR (codeL (codeL (codeR (codeL (codeR (codeR c))))))))))))
abbrev atrrlrllrllrrlll (c : Code) : Code := (codeL (codeL (codeL (codeR (codeR (codeL (codeL (codeR (codeL (codeL (codeR (codeL (codeR (codeR c))))))))))))))
theorem hb_laws_FnExactGapLimit : HasBody Try.prog n_laws_FnExactGapLimit := ⟨Try.f3, _, Try.func3, rfl, by decide⟩
theorem e_laws_FnExactGapLimit (env : Nat → Contract) (x0 : AV) (h : Heap) : denFn Try.prog env n_laws_FnExactGapLimit [x0] h = obind (aLenK .slice x0) fun v1 => obind (aBin .gtr v1 (iv 1048576)) fun v2 => condB v2 (some ((bv true), h)) (obind2 (aCall (env n_laws_toInt64S) [x0] h) fun v3 h4 => obind2 (aCall (env n_spec_GapLimit) [v3] h4) fun v5 h6 => obind (aExtract v5 0) fun v7 => obind (aExtract v5 1) fun v8 => obind2 (aCall (env n_laws_toInt64S) [x0] h6) fun v9 h10 => obind2 (aCall (env n_impl_GapLimit) [v9] h10) fun v11 h12 => obind (aExtract v11 0) fun v13 => obind (aExtract v11 1) fun v14 => obind (aCmp .neq .plain v13 v7) fun v15 => obind2 (guardB v15 false (obind (aCmp .neq .plain v14 v8) fun v16 => some (v16, h12)) (some (und, h12))) fun v17 h18 => obind (aPick v15 (bv true) v17) fun v19 => condB v19 (some ((bv false), h18)) (obind2 (aCall (env n_laws_toInt64S) [x0] h18) fun v20 h21 => obind2 (aCall (env n_laws_eqInt64S) [v9, v20] h21) fun v22 h23 => obind (aUn .not v22) fun v24 => condB v24 (some ((bv false), h23)) (some ((bv true), h23)))) := by kernel_rfl
noncomputable abbrev c_spec_GapLimit : Code := (Try.f6.body).getD .skip
noncomputable abbrev nm_spec_GapLimit : List Bool := namedOf Try.f6
theorem hb_spec_GapLimit : HasBody Try.prog n_spec_GapLimit := ⟨Try.f6, _, Try.func6, rfl, by decide⟩
abbrev hm0_spec_GapLimit : List Bool := (true :: true :: false :: false :: true :: true :: false :: false :: true :: true :: true :: true :: true :: false :: false :: false :: false :: false :: false :: false :: false :: false :: false :: false :: false :: false :: false :: false :: false :: false :: false :: false :: false :: false :: false :: false :: false :: false :: false :: false :: false :: false :: false :: false :: false :: false :: false :: false :: false :: false :: false :: false :: false :: false :: false :: false :: false :: false :: true :: true :: true :: true :: true :: true :: true :: true :: true :: true :: true :: true :: true :: true :: true :: true :: true :: true :: true :: true :: true :: true :: true :: true :: true :: true :: true :: true :: true :: true :: true :: true :: true :: true :: true :: true :: true :: true :: true :: true :: true :: true :: true :: true :: true :: true :: [])
abbrev xm0_spec_GapLimit : List Bool := (true :: true :: true :: true :: true :: true :: true :: true :: true :: true :: true :: true :: true :: false :: false :: false :: false :: false :: false :: false :: false :: false :: false :: false :: false :: false :: false :: false :: false :: false :: false :: false :: false :: false :: false :: false :: false :: false :: false :: false :: false :: false :: false :: false :: false :: false :: false :: false :: false :: false :: false :: false :: false :: false :: false :: false :: false :: false :: true :: true :: true :: true :: true :: true :: true :: true :: true :: true :: true :: true :: true :: true :: true :: true :: true :: true :: true :: true :: true :: true :: true :: true :: true :: true :: true :: true :: true :: true :: true :: true :: true :: true :: true :: true :: true :: true :: true :: true :: true :: true :: true :: true :: true :: true :: [])
noncomputable def lb0_spec_GapLimit (env : Nat → Contract) : TM → Heap → Option Res := fun tm h => denC Try.prog env nm_spec_GapLimit (atrrlrll c_spec_GapLimit) Res tm h fun e tm h => some (e, tm, h)
noncomputable def lk0_spec_GapLimit (env : Nat → Contract) : AX → TM → Heap → Option (AV × Heap) := (kBlock 0 (kSeq Try.prog env nm_spec_GapLimit (atrrr c_spec_GapLimit) _ (kRet Try.prog Try.f6.results.toList)))
abbrev hm1_spec_GapLimit : List Bool := (true :: true :: true :: true :: true :: true :: true :: true :: true :: true :: true :: true :: true :: true :: true :: true :: true :: true :: true :: true :: true :: true :: true :: true :: true :: true :: true :: false :: false :: false :: false :: false :: false :: false :: false :: false :: false :: false :: false :: false :: false :: false :: false :: true :: true :: true :: true :: true :: true :: true :: true :: true :: true :: true :: true :: true :: true :: true :: true :: true :: true :: true :: true :: true :: true :: true :: true :: true :: true :: true :: true :: true :: true :: true :: true :: true :: true :: true :: true :: true :: true :: true :: true :: true :: true :: true :: true :: true :: true :: true :: true :: true :: true :: true :: true :: true :: true :: true :: true :: true :: true :: true :: true :: true :: [])
abbrev xm1_spec_GapLimit : List Bool := (true :: true :: true :: true :: true :: true :: true :: true :: true :: true :: true :: true :: true :: true :: true :: true :: true :: true :: true :: true :: true :: true :: true :: true :: true :: true :: true :: false :: false :: false :: false :: false :: false :: false :: false :: false :: false :: false :: false :: false :: false :: false :: false :: true :: true :: true :: true :: true :: true :: true :: true :: true :: true :: true :: true :: true :: true :: true :: true :: true :: true :: true :: true :: true :: true :: true :: true :: true :: true :: true :: true :: true :: true :: true :: true :: true :: true :: true :: true :: true :: true :: true :: true :: true :: true :: true :: true :: true :: true :: true :: true :: true :: true :: true :: true :: true :: true :: true :: true :: true :: true :: true :: true :: true :: [])
noncomputable def lb1_spec_GapLimit (env : Nat → Contract) : TM → Heap → Option Res := fun tm h => denC Try.prog env nm_spec_GapLimit (atrrlrllrllrrlll c_spec_GapLimit) Res tm h fun e tm h => some (e, tm, h)
noncomputable def lk1_spec_GapLimit (env : Nat → Contract) : AX → TM → Heap → Option (Res) := (kBlock 2 (kSeq Try.prog env nm_spec_GapLimit (atrrlrllrllrrr c_spec_GapLimit) _ (kBlock 1 (kSeq Try.prog env nm_spec_GapLimit (atrrlrllrr c_spec_GapLimit) _ (fun e tm h => some (e, tm, h))))))
abbrev hm2_spec_GapLimit : List Bool := (true :: true :: true :: true :: true :: true :: true :: true :: true :: true :: true :: false :: true :: true :: true :: true :: true :: true :: true :: true :: true :: true :: true :: true :: true :: true :: true :: true :: true :: true :: true :: true :: true :: true :: true :: true :: true :: true :: true :: true :: true :: true :: true :: true :: true :: true :: true :: true :: true :: true :: true :: true :: true :: true :: true :: true :: true :: true :: true :: true :: true :: false :: false :: false :: false :: false :: false :: false :: false :: false :: false :: false :: false :: false :: false :: false :: false :: false :: false :: false :: false :: false :: false :: false :: false :: false :: false :: false :: false :: false :: false :: false :: false :: false :: false :: false :: false :: true :: true :: true :: true :: true :: true :: true :: [])
abbrev xm2_spec_GapLimit : List Bool := (true :: true :: true :: true :: true :: true :: true :: true :: true :: true :: true :: true :: true :: true :: true :: true :: true :: true :: true :: true :: true :: true :: true :: true :: true :: true :: true :: true :: true :: true :: true :: true :: true :: true :: true :: true :: true :: true :: true :: true :: true :: true :: true :: true :: true :: true :: true :: true :: true :: true :: true :: true :: true :: true :: true :: true :: true :: true :: true :: true :: true :: false :: false :: false :: false :: false :: false :: false :: false :: false :: false :: false :: false :: false :: false :: false :: false :: false :: false :: false :: false :: false :: false :: false :: false :: false :: false :: false :: false :: false :: false :: false :: false :: false :: false :: false :: false :: true :: true :: true :: true :: true :: true :: true :: [])
noncomputable def lb2_spec_GapLimit (env : Nat → Contract) : TM → Heap → Option Res := fun tm h => denC Try.prog env nm_spec_GapLimit (atrrrrrrlrll c_spec_GapLimit) Res tm h fun e tm h => some (e, tm, h)
noncomputable def lk2_spec_GapLimit (env : Nat → Contract) : AX → TM → Heap → Option (AV × Heap) := (kBlock 4 (kSeq Try.prog env nm_spec_GapLimit (atrrrrrrr c_spec_GapLimit) _ (kRet Try.prog Try.f6.results.toList)))
theorem e_spec_GapLimit (env : Nat → Contract) (x0 : AV) (h : Heap) : denFn Try.prog env n_spec_GapLimit [x0] h = obind2 (aBuildSlice [(iv 0)] 0 [] h) fun v1 h2 => obind (loopP hm0_spec_GapLimit xm0_spec_GapLimit (lb0_spec_GapLimit env) (x0 :: und :: .top :: .top :: v1 :: (iv 0) :: .top :: .top :: und :: und :: und :: und :: v1 :: .top :: .top :: .top :: .top :: .top :: .top :: .top :: .top :: .top :: .top :: .top :: .top :: .top :: .top :: .top :: .top :: .top :: .top :: .top :: .top :: .top :: .top :: .top :: .top :: .top :: .top :: .top :: .top :: .top :: .top :: .top :: .top :: .top :: .top :: .top :: .top :: .top :: .top :: .top :: .top :: .top :: .top :: .top :: .top :: .top :: und :: und :: und :: und :: und :: und :: und :: und :: und :: und :: und :: und :: und :: und :: und :: und :: und :: und :: und :: und :: und :: und :: und :: und :: und :: und :: und :: und :: und :: und :: und :: und :: und :: und :: und :: und :: und :: und :: und :: und :: und :: und :: und :: und :: und :: und :: []) h2) fun r => lk0_spec_GapLimit env r.1 r.2.1 r.2.2 := by kernel_rfl
theorem e_lb0_spec_GapLimit (env : Nat → Contract) (y0 y1 y4 y5 y8 y9 y10 y11 y12 y58 y59 y60 y61 y62 y63 y64 y65 y66 y67 y68 y69 y70 y71 y72 y73 y74 y75 y76 y77 y78 y79 y80 y81 y82 y83 y84 y85 y86 y87 y88 y89 y90 y91 y92 y93 y94 y95 y96 y97 y98 y99 y100 y101 y102 y103 : AV) (h : Heap) : lb0_spec_GapLimit env (y0 :: y1 :: .top :: .top :: y4 :: y5 :: .top :: .top :: y8 :: y9 :: y10 :: y11 :: y12 :: .top :: .top :: .top :: .top :: .top :: .top :: .top :: .top :: .top :: .top :: .top :: .top :: .top :: .top :: .top :: .top :: .top :: .top :: .top :: .top :: .top :: .top :: .top :: .top :: .top :: .top :: .top :: .top :: .top :: .top :: .top :: .top :: .top :: .top :: .top :: .top :: .top :: .top :: .top :: .top :: .top :: .top :: .top :: .top :: .top :: y58 :: y59 :: y60 :: y61 :: y62 :: y63 :: y64 :: y65 :: y66 :: y67 :: y68 :: y69 :: y70 :: y71 :: y72 :: y73 :: y74 :: y75 :: y76 :: y77 :: y78 :: y79 :: y80 :: y81 :: y82 :: y83 :: y84 :: y85 :: y86 :: y87 :: y88 :: y89 :: y90 :: y91 :: y92 :: y93 :: y94 :: y95 :: y96 :: y97 :: y98 :: y99 :: y100 :: y101 :: y102 :: y103 :: []) h = obind (aLenK .slice y0) fun v3 => obind (aBin .lss y5 v3) fun v4 => condB v4 (obind (aIndexAddr 1 y0 y5 h) fun v5 => obind (aLoad false 1 v5 h) fun v6 => obind2 (aCall (env n_spec_l19Gap) [v6] h) fun v7 h8 => obind (aUn .not v7) fun v9 => condB v9 (some (.ret, (y0 :: y1 :: (iv 0) :: (iv 1) :: y4 :: y5 :: .top :: .top :: y8 :: y9 :: y10 :: y11 :: y12 :: y5 :: y0 :: v3 :: v4 :: .top :: .top :: y0 :: y5 :: v5 :: v6 :: v7 :: v9 :: .top :: .top :: .top :: .top :: .top :: .top :: .top :: .top :: .top :: .top :: .top :: .top :: .top :: .top :: .top :: .top :: .top :: .top :: .top :: .top :: .top :: .top :: .top :: .top :: .top :: .top :: .top :: .top :: .top :: .top :: .top :: .top :: .top :: y58 :: y59 :: y60 :: y61 :: y62 :: y63 :: y64 :: y65 :: y66 :: y67 :: y68 :: y69 :: y70 :: y71 :: y72 :: y73 :: y74 :: y75 :: y76 :: y77 :: y78 :: y79 :: y80 :: y81 :: y82 :: y83 :: y84 :: y85 :: y86 :: y87 :: y88 :: y89 :: y90 :: y91 :: y92 :: y93 :: y94 :: y95 :: y96 :: y97 :: y98 :: y99 :: y100 :: y101 :: y102 :: y103 :: []), h8)) (obind (aLenK .slice y4) fun v10 => obind (loopP hm1_spec_GapLimit xm1_spec_GapLimit (lb1_spec_GapLimit env) (y0 :: y1 :: .top :: .top :: y4 :: y5 :: v10 :: .top :: y8 :: y9 :: y10 :: y11 :: y12 :: y5 :: y0 :: v3 :: v4 :: .top :: .top :: y0 :: y5 :: v5 :: v6 :: v7 :: v9 :: y4 :: v10 :: .top :: .top :: .top :: .top :: .top :: .top :: .top :: .top :: .top :: .top :: .top :: .top :: .top :: .top :: .top :: .top :: .top :: .top :: .top :: .top :: .top :: .top :: .top :: .top :: .top :: .top :: .top :: .top :: .top :: .top :: .top :: y58 :: y59 :: y60 :: y61 :: y62 :: y63 :: y64 :: y65 :: y66 :: y67 :: y68 :: y69 :: y70 :: y71 :: y72 :: y73 :: y74 :: y75 :: y76 :: y77 :: y78 :: y79 :: y80 :: y81 :: y82 :: y83 :: y84 :: y85 :: y86 :: y87 :: y88 :: y89 :: y90 :: y91 :: y92 :: y93 :: y94 :: y95 :: y96 :: y97 :: y98 :: y99 :: y100 :: y101 :: y102 :: y103 :: []) h8) fun r => lk1_spec_GapLimit env r.1 r.2.1 r.2.2)) (some (.exit 0, (y0 :: y1 :: .top :: .top :: y4 :: y5 :: .top :: .top :: y8 :: y9 :: y10 :: y11 :: y12 :: y5 :: y0 :: v3 :: v4 :: .top :: .top :: .top :: .top :: .top :: .top :: .top :: .top :: .top :: .top :: .top :: .top :: .top :: .top :: .top :: .top :: .top :: .top :: .top :: .top :: .top :: .top :: .top :: .top :: .top :: .top :: .top :: .top :: .top :: .top :: .top :: .top :: .top :: .top :: .top :: .top :: .top :: .top :: .top :: .top :: .top :: y58 :: y59 :: y60 :: y61 :: y62 :: y63 :: y64 :: y65 :: y66 :: y67 :: y68 :: y69 :: y70 :: y71 :: y72 :: y73 :: y74 :: y75 :: y76 :: y77 :: y78 :: y79 :: y80 :: y81 :: y82 :: y83 :: y84 :: y85 :: y86 :: y87 :: y88 :: y89 :: y90 :: y91 :: y92 :: y93 :: y94 :: y95 :: y96 :: y97 :: y98 :: y99 :: y100 :: y101 :: y102 :: y103 :: []), h)) := by kernel_rfl
theorem e_lk0x0_spec_GapLimit (env : Nat → Contract) (z0 z1 z2 z3 z4 z5 z6 z7 z8 z9 z10 z11 z12 z58 z59 z60 z61 z62 z63 z64 z65 z66 z67 z68 z69 z70 z71 z72 z73 z74 z75 z76 z77 z78 z79 z80 z81 z82 z83 z84 z85 z86 z87 z88 z89 z90 z91 z92 z93 z94 z95 z96 z97 z98 z99 z100 z101 z102 z103 : AV) (h : Heap) : lk0_spec_GapLimit env (.exit 0) (z0 :: z1 :: z2 :: z3 :: z4 :: z5 :: z6 :: z7 :: z8 :: z9 :: z10 :: z11 :: z12 :: .top :: .top :: .top :: .top :: .top :: .top :: .top :: .top :: .top :: .top :: .top :: .top :: .top :: .top :: .top :: .top :: .top :: .top :: .top :: .top :: .top :: .top :: .top :: .top :: .top :: .top :: .top :: .top :: .top :: .top :: .top :: .top :: .top :: .top :: .top :: .top :: .top :: .top :: .top :: .top :: .top :: .top :: .top :: .top :: .top :: z58 :: z59 :: z60 :: z61 :: z62 :: z63 :: z64 :: z65 :: z66 :: z67 :: z68 :: z69 :: z70 :: z71 :: z72 :: z73 :: z74 :: z75 :: z76 :: z77 :: z78 :: z79 :: z80 :: z81 :: z82 :: z83 :: z84 :: z85 :: z86 :: z87 :: z88 :: z89 :: z90 :: z91 :: z92 :: z93 :: z94 :: z95 :: z96 :: z97 :: z98 :: z99 :: z100 :: z101 :: z102 :: z103 :: []) h = obind (aLenK .slice z0) fun v11 => obind (aBin .gtr v11 (iv 60)) fun v12 => condB v12 (some ((.tup [(iv 0), (iv 5)]), h)) (obind (loopP hm2_spec_GapLimit xm2_spec_GapLimit (lb2_spec_GapLimit env) (z0 :: z1 :: z2 :: z3 :: z4 :: z5 :: z6 :: z7 :: (iv (-1)) :: (iv 0) :: (iv 1) :: .top :: z12 :: .top :: .top :: .top :: .top :: .top :: .top :: .top :: .top :: .top :: .top :: .top :: .top :: .top :: .top :: .top :: .top :: .top :: .top :: .top :: .top :: .top :: .top :: .top :: .top :: .top :: .top :: .top :: .top :: .top :: .top :: .top :: .top :: .top :: .top :: .top :: .top :: .top :: .top :: .top :: .top :: .top :: .top :: .top :: .top :: .top :: z0 :: v11 :: v12 :: .top :: .top :: .top :: .top :: .top :: .top :: .top :: .top :: .top :: .top :: .top :: .top :: .top :: .top :: .top :: .top :: .top :: .top :: .top :: .top :: .top :: .top :: .top :: .top :: .top :: .top :: .top :: .top :: .top :: .top :: .top :: .top :: .top :: .top :: .top :: .top :: z97 :: z98 :: z99 :: z100 :: z101 :: z102 :: z103 :: []) h) fun r => lk2_spec_GapLimit env r.1 r.2.1 r.2.2) := by kernel_rfl
theorem e_lk0r_spec_GapLimit (env : Nat → Contract) (z0 z1 z2 z3 z4 z5 z6 z7 z8 z9 z10 z11 z12 z58 z59 z60 z61 z62 z63 z64 z65 z66 z67 z68 z69 z70 z71 z72 z73 z74 z75 z76 z77 z78 z79 z80 z81 z82 z83 z84 z85 z86 z87 z88 z89 z90 z91 z92 z93 z94 z95 z96 z97 z98 z99 z100 z101 z102 z103 : AV) (h : Heap) : lk0_spec_GapLimit env .ret (z0 :: z1 :: z2 :: z3 :: z4 :: z5 :: z6 :: z7 :: z8 :: z9 :: z10 :: z11 :: z12 :: .top :: .top :: .top :: .top :: .top :: .top :: .top :: .top :: .top :: .top :: .top :: .top :: .top :: .top :: .top :: .top :: .top :: .top :: .top :: .top :: .top :: .top :: .top :: .top :: .top :: .top :: .top :: .top :: .top :: .top :: .top :: .top :: .top :: .top :: .top :: .top :: .top :: .top :: .top :: .top :: .top :: .top :: .top :: .top :: .top :: z58 :: z59 :: z60 :: z61 :: z62 :: z63 :: z64 :: z65 :: z66 :: z67 :: z68 :: z69 :: z70 :: z71 :: z72 :: z73 :: z74 :: z75 :: z76 :: z77 :: z78 :: z79 :: z80 :: z81 :: z82 :: z83 :: z84 :: z85 :: z86 :: z87 :: z88 :: z89 :: z90 :: z91 :: z92 :: z93 :: z94 :: z95 :: z96 :: z97 :: z98 :: z99 :: z100 :: z101 :: z102 :: z103 :: []) h = some ((.tup [z2, z3]), h) := by kernel_rfl
theorem e_lb1_spec_GapLimit (env : Nat → Contract) (y0 y1 y2 y3 y4 y5 y6 y7 y8 y9 y10 y11 y12 y13 y14 y15 y16 y17 y18 y19 y20 y21 y22 y23 y24 y25 y26 y43 y44 y45 y46 y47 y48 y49 y50 y51 y52 y53 y54 y55 y56 y57 y58 y59 y60 y61 y62 y63 y64 y65 y66 y67 y68 y69 y70 y71 y72 y73 y74 y75 y76 y77 y78 y79 y80 y81 y82 y83 y84 y85 y86 y87 y88 y89 y90 y91 y92 y93 y94 y95 y96 y97 y98 y99 y100 y101 y102 y103 : AV) (h : Heap) : lb1_spec_GapLimit env (y0 :: y1 :: y2 :: y3 :: y4 :: y5 :: y6 :: y7 :: y8 :: y9 :: y10 :: y11 :: y12 :: y13 :: y14 :: y15 :: y16 :: y17 :: y18 :: y19 :: y20 :: y21 :: y22 :: y23 :: y24 :: y25 :: y26 :: .top :: .top :: .top :: .top :: .top :: .top :: .top :: .top :: .top :: .top :: .top :: .top :: .top :: .top :: .top :: .top :: y43 :: y44 :: y45 :: y46 :: y47 :: y48 :: y49 :: y50 :: y51 :: y52 :: y53 :: y54 :: y55 :: y56 :: y57 :: y58 :: y59 :: y60 :: y61 :: y62 :: y63 :: y64 :: y65 :: y66 :: y67 :: y68 :: y69 :: y70 :: y71 :: y72 :: y73 :: y74 :: y75 :: y76 :: y77 :: y78 :: y79 :: y80 :: y81 :: y82 :: y83 :: y84 :: y85 :: y86 :: y87 :: y88 :: y89 :: y90 :: y91 :: y92 :: y93 :: y94 :: y95 :: y96 :: y97 :: y98 :: y99 :: y100 :: y101 :: y102 :: y103 :: []) h = obind (aBin .gtr y6 (iv 0)) fun v13 => obind2 (guardB v13 true (some (y4, h)) (some (und, h))) fun v14 h15 => obind2 (guardB v13 true (some (y6, h15)) (some (und, h15))) fun v16 h17 => obind2 (guardB v13 true (obind (aBin .sub v16 (iv 1)) fun v18 => some (v18, h17)) (some (und, h17))) fun v19 h20 => obind2 (guardB v13 true (obind (aIndexAddr 1 v14 v19 h20) fun v21 => some (v21, h20)) (some (und, h20))) fun v22 h23 => obind2 (guardB v13 true (obind (aLoad false 1 v22 h23) fun v24 => some (v24, h23)) (some (und, h23))) fun v25 h26 => obind2 (guardB v13 true (some (y0, h26)) (some (und, h26))) fun v27 h28 => obind2 (guardB v13 true (some (y5, h28)) (some (und, h28))) fun v29 h30 => obind2 (guardB v13 true (obind (aIndexAddr 1 v27 v29 h30) fun v31 => some (v31, h30)) (some (und, h30))) fun v32 h33 => obind2 (guardB v13 true (obind (aLoad false 1 v32 h33) fun v34 => some (v34, h33)) (some (und, h33))) fun v35 h36 => obind2 (guardB v13 true (obind (aBin .gtr v25 v35) fun v37 => some (v37, h36)) (some (und, h36))) fun v38 h39 => obind (aPick v13 v38 (bv false)) fun v40 => condB v40 (obind (aBin .sub y6 (iv 1)) fun v41 => some (.normal, (y0 :: y1 :: y2 :: y3 :: y4 :: y5 :: v41 :: y7 :: y8 :: y9 :: y10 :: y11 :: y12 :: y13 :: y14 :: y15 :: y16 :: y17 :: y18 :: y19 :: y20 :: y21 :: y22 :: y23 :: y24 :: y25 :: y26 :: y6 :: v13 :: v13 :: v14 :: v16 :: v19 :: v22 :: v25 :: v27 :: v29 :: v32 :: v35 :: v38 :: v40 :: y6 :: v41 :: y43 :: y44 :: y45 :: y46 :: y47 :: y48 :: y49 :: y50 :: y51 :: y52 :: y53 :: y54 :: y55 :: y56 :: y57 :: y58 :: y59 :: y60 :: y61 :: y62 :: y63 :: y64 :: y65 :: y66 :: y67 :: y68 :: y69 :: y70 :: y71 :: y72 :: y73 :: y74 :: y75 :: y76 :: y77 :: y78 :: y79 :: y80 :: y81 :: y82 :: y83 :: y84 :: y85 :: y86 :: y87 :: y88 :: y89 :: y90 :: y91 :: y92 :: y93 :: y94 :: y95 :: y96 :: y97 :: y98 :: y99 :: y100 :: y101 :: y102 :: y103 :: []), h39)) (some (.exit 2, (y0 :: y1 :: y2 :: y3 :: y4 :: y5 :: y6 :: y7 :: y8 :: y9 :: y10 :: y11 :: y12 :: y13 :: y14 :: y15 :: y16 :: y17 :: y18 :: y19 :: y20 :: y21 :: y22 :: y23 :: y24 :: y25 :: y26 :: y6 :: v13 :: v13 :: v14 :: v16 :: v19 :: v22 :: v25 :: v27 :: v29 :: v32 :: v35 :: v38 :: v40 :: .top :: .top :: y43 :: y44 :: y45 :: y46 :: y47 :: y48 :: y49 :: y50 :: y51 :: y52 :: y53 :: y54 :: y55 :: y56 :: y57 :: y58 :: y59 :: y60 :: y61 :: y62 :: y63 :: y64 :: y65 :: y66 :: y67 :: y68 :: y69 :: y70 :: y71 :: y72 :: y73 :: y74 :: y75 :: y76 :: y77 :: y78 :: y79 :: y80 :: y81 :: y82 :: y83 :: y84 :: y85 :: y86 :: y87 :: y88 :: y89 :: y90 :: y91 :: y92 :: y93 :: y94 :: y95 :: y96 :: y97 :: y98 :: y99 :: y100 :: y101 :: y102 :: y103 :: []), h39)) := by kernel_rfl
theorem e_lk1x2_spec_GapLimit (env : Nat → Contract) (z0 z1 z2 z3 z4 z5 z6 z7 z8 z9 z10 z11 z12 z13 z14 z15 z16 z17 z18 z19 z20 z21 z22 z23 z24 z25 z26 z43 z44 z45 z46 z47 z48 z49 z50 z51 z52 z53 z54 z55 z56 z57 z58 z59 z60 z61 z62 z63 z64 z65 z66 z67 z68 z69 z70 z71 z72 z73 z74 z75 z76 z77 z78 z79 z80 z81 z82 z83 z84 z85 z86 z87 z88 z89 z90 z91 z92 z93 z94 z95 z96 z97 z98 z99 z100 z101 z102 z103 : AV) (h : Heap) : lk1_spec_GapLimit env (.exit 2) (z0 :: z1 :: z2 :: z3 :: z4 :: z5 :: z6 :: z7 :: z8 :: z9 :: z10 :: z11 :: z12 :: z13 :: z14 :: z15 :: z16 :: z17 :: z18 :: z19 :: z20 :: z21 :: z22 :: z23 :: z24 :: z25 :: z26 :: .top :: .top :: .top :: .top :: .top :: .top :: .top :: .top :: .top :: .top :: .top :: .top :: .top :: .top :: .top :: .top :: z43 :: z44 :: z45 :: z46 :: z47 :: z48 :: z49 :: z50 :: z51 :: z52 :: z53 :: z54 :: z55 :: z56 :: z57 :: z58 :: z59 :: z60 :: z61 :: z62 :: z63 :: z64 :: z65 :: z66 :: z67 :: z68 :: z69 :: z70 :: z71 :: z72 :: z73 :: z74 :: z75 :: z76 :: z77 :: z78 :: z79 :: z80 :: z81 :: z82 :: z83 :: z84 :: z85 :: z86 :: z87 :: z88 :: z89 :: z90 :: z91 :: z92 :: z93 :: z94 :: z95 :: z96 :: z97 :: z98 :: z99 :: z100 :: z101 :: z102 :: z103 :: []) h = obind (aSlice 1 z4 none (some z6) h) fun v42 => obind2 (aCallQ (env n_spec_l00Own) [v42] h) fun v43 h44 => obind (aIndexAddr 1 z0 z5 h44) fun v45 => obind (aLoad false 1 v45 h44) fun v46 => obind2 (aBuildSlice [(iv 0)] 1 [(0, v46)] h44) fun v47 h48 => obind2 (aAppend false 1 8 v43 v47 h48) fun v49 h50 => obind (aSlice 1 z4 (some z6) none h50) fun v51 => obind2 (aAppend false 1 8 v49 v51 h50) fun v52 h53 => obind (aBin .add z5 (iv 1)) fun v54 => some (.normal, (z0 :: z1 :: z2 :: z3 :: v52 :: v54 :: z6 :: v49 :: z8 :: z9 :: z10 :: z11 :: z12 :: z13 :: z14 :: z15 :: z16 :: z5 :: v54 :: z19 :: z20 :: z21 :: z22 :: z23 :: z24 :: z25 :: z26 :: .top :: .top :: .top :: .top :: .top :: .top :: .top :: .top :: .top :: .top :: .top :: .top :: .top :: .top :: .top :: .top :: z4 :: z6 :: v42 :: v43 :: z0 :: z5 :: v45 :: v46 :: v47 :: v49 :: v49 :: z4 :: z6 :: v51 :: v52 :: z58 :: z59 :: z60 :: z61 :: z62 :: z63 :: z64 :: z65 :: z66 :: z67 :: z68 :: z69 :: z70 :: z71 :: z72 :: z73 :: z74 :: z75 :: z76 :: z77 :: z78 :: z79 :: z80 :: z81 :: z82 :: z83 :: z84 :: z85 :: z86 :: z87 :: z88 :: z89 :: z90 :: z91 :: z92 :: z93 :: z94 :: z95 :: z96 :: z97 :: z98 :: z99 :: z100 :: z101 :: z102 :: z103 :: []), h53) := by kernel_rfl
theorem e_lb2_spec_GapLimit (env : Nat → Contract) (y0 y1 y2 y3 y4 y5 y6 y7 y8 y9 y10 y12 y13 y14 y15 y16 y17 y18 y19 y20 y21 y22 y23 y24 y25 y26 y27 y28 y29 y30 y31 y32 y33 y34 y35 y36 y37 y38 y39 y40 y41 y42 y43 y44 y45 y46 y47 y48 y49 y50 y51 y52 y53 y54 y55 y56 y57 y58 y59 y60 y97 y98 y99 y100 y101 y102 y103 : AV) (h : Heap) : lb2_spec_GapLimit env (y0 :: y1 :: y2 :: y3 :: y4 :: y5 :: y6 :: y7 :: y8 :: y9 :: y10 :: .top :: y12 :: y13 :: y14 :: y15 :: y16 :: y17 :: y18 :: y19 :: y20 :: y21 :: y22 :: y23 :: y24 :: y25 :: y26 :: y27 :: y28 :: y29 :: y30 :: y31 :: y32 :: y33 :: y34 :: y35 :: y36 :: y37 :: y38 :: y39 :: y40 :: y41 :: y42 :: y43 :: y44 :: y45 :: y46 :: y47 :: y48 :: y49 :: y50 :: y51 :: y52 :: y53 :: y54 :: y55 :: y56 :: y57 :: y58 :: y59 :: y60 :: .top :: .top :: .top :: .top :: .top :: .top :: .top :: .top :: .top :: .top :: .top :: .top :: .top :: .top :: .top :: .top :: .top :: .top :: .top :: .top :: .top :: .top :: .top :: .top :: .top :: .top :: .top :: .top :: .top :: .top :: .top :: .top :: .top :: .top :: .top :: .top :: y97 :: y98 :: y99 :: y100 :: y101 :: y102 :: y103 :: []) h = obind (aLenK .slice y4) fun v55 => obind (aBin .lss y10 v55) fun v56 => condB v56 (obind (aSlice 1 y4 none (some y10) h) fun v57 => obind2 (aCallQ (env n_spec_l19Spread) [v57] h) fun v58 h59 => obind (aSlice 1 y4 (some y10) none h59) fun v60 => obind2 (aCallQ (env n_spec_l19Spread) [v60] h59) fun v61 h62 => obind (aBin .add v58 v61) fun v63 => obind (aBin .sub y10 (iv 1)) fun v64 => obind (aIndexAddr 1 y4 v64 h62) fun v65 => obind (aLoad false 1 v65 h62) fun v66 => obind (aIndexAddr 1 y4 y10 h62) fun v67 => obind (aLoad false 1 v67 h62) fun v68 => obind (aBin .lss v66 v68) fun v69 => obind2 (guardB v69 true (some (y8, h62)) (some (und, h62))) fun v70 h71 => obind2 (guardB v69 true (obind (aBin .lss v70 (iv 0)) fun v72 => some (v72, h71)) (some (und, h71))) fun v73 h74 => obind2 (guardB v69 true (some (v73, h74)) (some (und, h74))) fun v75 h76 => obind2 (guardB v75 false (some (v63, h76)) (some (und, h76))) fun v77 h78 => obind2 (guardB v75 false (some (y9, h78)) (some (und, h78))) fun v79 h80 => obind2 (guardB v75 false (obind (aBin .lss v77 v79) fun v81 => some (v81, h80)) (some (und, h80))) fun v82 h83 => obind2 (guardB v69 true (obind (aPick v75 (bv true) v82) fun v84 => some (v84, h83)) (some (und, h83))) fun v85 h86 => obind (aPick v69 v85 (bv false)) fun v87 => condB v87 (obind (aBin .add y10 (iv 1)) fun v88 => some (.normal, (y0 :: y1 :: y2 :: y3 :: y4 :: y5 :: y6 :: y7 :: y10 :: v63 :: v88 :: v63 :: y12 :: y13 :: y14 :: y15 :: y16 :: y17 :: y18 :: y19 :: y20 :: y21 :: y22 :: y23 :: y24 :: y25 :: y26 :: y27 :: y28 :: y29 :: y30 :: y31 :: y32 :: y33 :: y34 :: y35 :: y36 :: y37 :: y38 :: y39 :: y40 :: y41 :: y42 :: y43 :: y44 :: y45 :: y46 :: y47 :: y48 :: y49 :: y50 :: y51 :: y52 :: y53 :: y54 :: y55 :: y56 :: y57 :: y58 :: y59 :: y60 :: y10 :: y4 :: v55 :: v56 :: y10 :: v88 :: y4 :: y10 :: v57 :: v58 :: y4 :: y10 :: v60 :: v61 :: v63 :: y4 :: y10 :: v64 :: v65 :: v66 :: y4 :: y10 :: v67 :: v68 :: v69 :: v69 :: v70 :: v73 :: v75 :: v77 :: v79 :: v82 :: v85 :: v87 :: y10 :: v63 :: y97 :: y98 :: y99 :: y100 :: y101 :: y102 :: y103 :: []), h86)) (obind (aBin .add y10 (iv 1)) fun v89 => some (.normal, (y0 :: y1 :: y2 :: y3 :: y4 :: y5 :: y6 :: y7 :: y8 :: y9 :: v89 :: v63 :: y12 :: y13 :: y14 :: y15 :: y16 :: y17 :: y18 :: y19 :: y20 :: y21 :: y22 :: y23 :: y24 :: y25 :: y26 :: y27 :: y28 :: y29 :: y30 :: y31 :: y32 :: y33 :: y34 :: y35 :: y36 :: y37 :: y38 :: y39 :: y40 :: y41 :: y42 :: y43 :: y44 :: y45 :: y46 :: y47 :: y48 :: y49 :: y50 :: y51 :: y52 :: y53 :: y54 :: y55 :: y56 :: y57 :: y58 :: y59 :: y60 :: y10 :: y4 :: v55 :: v56 :: y10 :: v89 :: y4 :: y10 :: v57 :: v58 :: y4 :: y10 :: v60 :: v61 :: v63 :: y4 :: y10 :: v64 :: v65 :: v66 :: y4 :: y10 :: v67 :: v68 :: v69 :: v69 :: v70 :: v73 :: v75 :: v77 :: v79 :: v82 :: v85 :: v87 :: .top :: .top :: y97 :: y98 :: y99 :: y100 :: y101 :: y102 :: y103 :: []), h86))) (some (.exit 4, (y0 :: y1 :: y2 :: y3 :: y4 :: y5 :: y6 :: y7 :: y8 :: y9 :: y10 :: .top :: y12 :: y13 :: y14 :: y15 :: y16 :: y17 :: y18 :: y19 :: y20 :: y21 :: y22 :: y23 :: y24 :: y25 :: y26 :: y27 :: y28 :: y29 :: y30 :: y31 :: y32 :: y33 :: y34 :: y35 :: y36 :: y37 :: y38 :: y39 :: y40 :: y41 :: y42 :: y43 :: y44 :: y45 :: y46 :: y47 :: y48 :: y49 :: y50 :: y51 :: y52 :: y53 :: y54 :: y55 :: y56 :: y57 :: y58 :: y59 :: y60 :: y10 :: y4 :: v55 :: v56 :: .top :: .top :: .top :: .top :: .top :: .top :: .top :: .top :: .top :: .top :: .top :: .top :: .top :: .top :: .top :: .top :: .top :: .top :: .top :: .top :: .top :: .top :: .top :: .top :: .top :: .top :: .top :: .top :: .top :: .top :: .top :: .top :: y97 :: y98 :: y99 :: y100 :: y101 :: y102 :: y103 :: []), h)) := by kernel_rfl
theorem e_lk2x4_spec_GapLimit (env : Nat → Contract) (z0 z1 z2 z3 z4 z5 z6 z7 z8 z9 z10 z11 z12 z13 z14 z15 z16 z17 z18 z19 z20 z21 z22 z23 z24 z25 z26 z27 z28 z29 z30 z31 z32 z33 z34 z35 z36 z37 z38 z39 z40 z41 z42 z43 z44 z45 z46 z47 z48 z49 z50 z51 z52 z53 z54 z55 z56 z57 z58 z59 z60 z97 z98 z99 z100 z101 z102 z103 : AV) (h : Heap) : lk2_spec_GapLimit env (.exit 4) (z0 :: z1 :: z2 :: z3 :: z4 :: z5 :: z6 :: z7 :: z8 :: z9 :: z10 :: z11 :: z12 :: z13 :: z14 :: z15 :: z16 :: z17 :: z18 :: z19 :: z20 :: z21 :: z22 :: z23 :: z24 :: z25 :: z26 :: z27 :: z28 :: z29 :: z30 :: z31 :: z32 :: z33 :: z34 :: z35 :: z36 :: z37 :: z38 :: z39 :: z40 :: z41 :: z42 :: z43 :: z44 :: z45 :: z46 :: z47 :: z48 :: z49 :: z50 :: z51 :: z52 :: z53 :: z54 :: z55 :: z56 :: z57 :: z58 :: z59 :: z60 :: .top :: .top :: .top :: .top :: .top :: .top :: .top :: .top :: .top :: .top :: .top :: .top :: .top :: .top :: .top :: .top :: .top :: .top :: .top :: .top :: .top :: .top :: .top :: .top :: .top :: .top :: .top :: .top :: .top :: .top :: .top :: .top :: .top :: .top :: .top :: .top :: z97 :: z98 :: z99 :: z100 :: z101 :: z102 :: z103 :: []) h = obind (aBin .lss z8 (iv 0)) fun v90 => condB v90 (some ((.tup [(iv 0), (iv 6)]), h)) (obind (aBin .sub z8 (iv 1)) fun v91 => obind (aIndexAddr 1 z4 v91 h) fun v92 => obind (aLoad false 1 v92 h) fun v93 => some ((.tup [v93, (iv 0)]), h)) := by kernel_rfl
noncomputable abbrev c_laws_toInt64S : Code := (Try.f7.body).getD .skip
noncomputable abbrev nm_laws_toInt64S : List Bool := namedOf Try.f7
theorem hb_laws_toInt64S : HasBody Try.prog n_laws_toInt64S := ⟨Try.f7, _, Try.func7, rfl, by decide⟩
abbrev hm0_laws_toInt64S : List Bool := [true, true, true, true, true, true, true, true, false, false, false, false, false, false, false, false, false, false, false, false, false, true]
abbrev xm0_laws_toInt64S : List Bool := [true, true, true, true, true, true, true, true, false, false, false, false, false, false, false, false, false, false, false, false, false, true]
noncomputable def lb0_laws_toInt64S (env : Nat → Contract) : TM → Heap → Option Res := fun tm h => denC Try.prog env nm_laws_toInt64S (atrrlrll c_laws_toInt64S) Res tm h fun e tm h => some (e, tm, h)
noncomputable def lk0_laws_toInt64S (env : Nat → Contract) : AX → TM → Heap → Option (AV × Heap) := (kBlock 0 (kSeq Try.prog env nm_laws_toInt64S (atrrr c_laws_toInt64S) _ (kRet Try.prog Try.f7.results.toList)))
theorem e_laws_toInt64S (env : Nat → Contract) (x0 : AV) (h : Heap) : denFn Try.prog env n_laws_toInt64S [x0] h = obind (aLenK .slice x0) fun v1 => obind2 (aMakeSlice [(iv 0)] 8 v1 v1 h) fun v2 h3 => obind (loopP hm0_laws_toInt64S xm0_laws_toInt64S (lb0_laws_toInt64S env) [x0, und, nilS, v2, (iv 0), x0, v1, v2, .top, .top, .top, .top, .top, .top, .top, .top, .top, .top, .top, .top, .top, und] h3) fun r => lk0_laws_toInt64S env r.1 r.2.1 r.2.2 := by kernel_rfl
theorem e_lb0_laws_toInt64S (env : Nat → Contract) (y0 y1 y2 y3 y4 y5 y6 y7 y21 : AV) (h : Heap) : lb0_laws_toInt64S env [y0, y1, y2, y3, y4, y5, y6, y7, .top, .top, .top, .top, .top, .top, .top, .top, .top, .top, .top, .top, .top, y21] h = obind (aLenK .slice y0) fun v4 => obind (aBin .lss y4 v4) fun v5 => condB v5 (obind (aIndexAddr 1 y0 y4 h) fun v6 => obind (aLoad false 1 v6 h) fun v7 => obind (aIndexAddr 1 y3 y4 h) fun v8 => obind (aStore 1 v8 v7 h) fun h9 => obind (aBin .add y4 (iv 1)) fun v10 => some (.normal, [y0, y1, y2, y3, v10, y5, y6, y7, y4, y0, v4, v5, y4, v10, y3, y4, y0, y4, v6, v7, v8, y21], h9)) (some (.exit 0, [y0, y1, y2, y3, y4, y5, y6, y7, y4, y0, v4, v5, .top, .top, .top, .top, .top, .top, .top, .top, .top, y21], h)) := by kernel_rfl
theorem e_lk0x0_laws_toInt64S (env : Nat → Contract) (z0 z1 z2 z3 z4 z5 z6 z7 z21 : AV) (h : Heap) : lk0_laws_toInt64S env (.exit 0) [z0, z1, z2, z3, z4, z5, z6, z7, .top, .top, .top, .top, .top, .top, .top, .top, .top, .top, .top, .top, .top, z21] h = some (z3, h) := by kernel_rfl
noncomputable abbrev c_impl_GapLimit : Code := (Try.f8.body).getD .skip
noncomputable abbrev nm_impl_GapLimit : List Bool := namedOf Try.f8
theorem hb_impl_GapLimit : HasBody Try.prog n_impl_GapLimit := ⟨Try.f8, _, Try.func8, rfl, by decide⟩
abbrev hm0_impl_GapLimit : List Bool := [true, true, true, true, true, true, true, true, true, true, true, true, true, true, true, true, true, true, false, false, false, false, false, false, false, false, false, false, false, false, false, false, false, false, false, false, false, false, false, false, false, false, false, false, false, false, false, false, false, false, false, false, false, false, false, false, true, true, true]
abbrev xm0_impl_GapLimit : List Bool := [true, true, true, true, true, true, true, true, true, true, true, true, true, true, true, true, true, true, false, false, false, false, false, false, false, false, false, false, false, false, false, false, false, false, false, false, false, false, false, false, false, false, false, false, false, false, false, false, false, false, false, false, false, false, false, false, true, true, true]
noncomputable def lb0_impl_GapLimit (env : Nat → Contract) : TM → Heap → Option Res := fun tm h => denCM true Try.prog env nm_impl_GapLimit (atrrrrrrlrll c_impl_GapLimit) Res tm h fun e tm h => some (e, tm, h)
noncomputable def lk0_impl_GapLimit (env : Nat → Contract) : AX → TM → Heap → Option (AV × Heap) := (kBlock 0 (kSeqM true Try.prog env nm_impl_GapLimit (atrrrrrrr c_impl_GapLimit) _ (kRet Try.prog Try.f8.results.toList)))
theorem e_impl_GapLimit (env : Nat → Contract) (x0 : AV) (h : Heap) : denFnM true Try.prog env n_impl_GapLimit [x0] h = obind2 (aCall (env n_slices_ContainsFunc_int64_int64) [x0, (.fn n_impl_GapLimit_1 [])] h) fun v1 h2 => condB v1 (some ((.tup [(iv 0), (iv 1)]), h2)) (obind (aLenK .slice x0) fun v3 => obind (aBin .gtr v3 (iv 60)) fun v4 => condB v4 (some ((.tup [(iv 0), (iv 5)]), h2)) (obind2 (aCall (env n_slices_Clone_int64_int64) [x0] h2) fun v5 h6 => obind2 (aCall (env n_slices_Sort_int64_int64) [v5] h6) fun v7 h8 => obind (loopP hm0_impl_GapLimit xm0_impl_GapLimit (lb0_impl_GapLimit env) [x0, und, (iv 0), (iv 0), v5, (iv 0), (iv (-1)), (iv 1), und, x0, v1, x0, v3, v4, x0, v5, v5, v7, .top, .top, .top, .top, .top, .top, .top, .top, .top, .top, .top, .top, .top, .top, .top, .top, .top, .top, .top, .top, .top, .top, .top, .top, .top, .top, .top, .top, .top, .top, .top, .top, .top, .top, .top, .top, .top, .top, und, und, und] h8) fun r => lk0_impl_GapLimit env r.1 r.2.1 r.2.2)) := by kernel_rfl
theorem e_lb0_impl_GapLimit (env : Nat → Contract) (y0 y1 y2 y3 y4 y5 y6 y7 y8 y9 y10 y11 y12 y13 y14 y15 y16 y17 y56 y57 y58 : AV) (h : Heap) : lb0_impl_GapLimit env [y0, y1, y2, y3, y4, y5, y6, y7, y8, y9, y10, y11, y12, y13, y14, y15, y16, y17, .top, .top, .top, .top, .top, .top, .top, .top, .top, .top, .top, .top, .top, .top, .top, .top, .top, .top, .top, .top, .top, .top, .top, .top, .top, .top, .top, .top, .top, .top, .top, .top, .top, .top, .top, .top, .top, .top, y56, y57, y58] h = obind (aLenK .slice y4) fun v9 => obind (aBin .lss y7 v9) fun v10 => condB v10 (obind (aBin .sub y7 (iv 1)) fun v11 => obind (aIndexAddr 1 y4 v11 h) fun v12 => obind (aLoad false 1 v12 h) fun v13 => obind (aIndexAddr 1 y4 y7 h) fun v14 => obind (aLoad false 1 v14 h) fun v15 => obind (aCmp .eql .plain v13 v15) fun v16 => condB v16 (obind (aBin .add y7 (iv 1)) fun v17 => some (.normal, [y0, y1, y2, y3, y4, y5, y6, v17, y8, y9, y10, y11, y12, y13, y14, y15, y16, y17, y7, y4, v9, v10, y7, v17, y4, y7, v11, v12, v13, y4, y7, v14, v15, v16, .top, .top, .top, .top, .top, .top, .top, .top, .top, .top, .top, .top, .top, .top, .top, .top, .top, .top, .top, .top, .top, .top, y56, y57, y58], h)) (obind (aSlice 1 y4 none (some y7) h) fun v18 => obind2 (aCallQ (env n_impl_spreadOf) [v18] h) fun v19 h20 => obind (aSlice 1 y4 (some y7) none h20) fun v21 => obind2 (aCallQ (env n_impl_spreadOf) [v21] h20) fun v22 h23 => obind (aBin .add v19 v22) fun v24 => obind (aBin .lss y6 (iv 0)) fun v25 => obind2 (guardB v25 false (obind (aBin .lss v24 y6) fun v26 => some (v26, h23)) (some (und, h23))) fun v27 h28 => obind (aPick v25 (bv true) v27) fun v29 => condB v29 (obind (aBin .sub y7 (iv 1)) fun v30 => obind (aIndexAddr 1 y4 v30 h28) fun v31 => obind (aLoad false 1 v31 h28) fun v32 => obind (aBin .add y7 (iv 1)) fun v33 => some (.normal, [y0, y1, y2, y3, y4, v32, v24, v33, v24, y9, y10, y11, y12, y13, y14, y15, y16, y17, y7, y4, v9, v10, y7, v33, y4, y7, v11, v12, v13, y4, y7, v14, v15, v16, y4, y7, v18, v19, y4, y7, v21, v22, v24, y6, v25, v25, .top, .top, v27, v29, y4, y7, v30, v31, v32, v24, y56, y57, y58], h28)) (obind (aBin .add y7 (iv 1)) fun v34 => some (.normal, [y0, y1, y2, y3, y4, y5, y6, v34, v24, y9, y10, y11, y12, y13, y14, y15, y16, y17, y7, y4, v9, v10, y7, v34, y4, y7, v11, v12, v13, y4, y7, v14, v15, v16, y4, y7, v18, v19, y4, y7, v21, v22, v24, y6, v25, v25, .top, .top, v27, v29, .top, .top, .top, .top, .top, .top, y56, y57, y58], h28)))) (some (.exit 0, [y0, y1, y2, y3, y4, y5, y6, y7, y8, y9, y10, y11, y12, y13, y14, y15, y16, y17, y7, y4, v9, v10, .top, .top, .top, .top, .top, .top, .top, .top, .top, .top, .top, .top, .top, .top, .top, .top, .top, .top, .top, .top, .top, .top, .top, .top, .top, .top, .top, .top, .top, .top, .top, .top, .top, .top, y56, y57, y58], h)) := by kernel_rfl
theorem e_lk0x0_impl_GapLimit (env : Nat → Contract) (z0 z1 z2 z3 z4 z5 z6 z7 z8 z9 z10 z11 z12 z13 z14 z15 z16 z17 z56 z57 z58 : AV) (h : Heap) : lk0_impl_GapLimit env (.exit 0) [z0, z1, z2, z3, z4, z5, z6, z7, z8, z9, z10, z11, z12, z13, z14, z15, z16, z17, .top, .top, .top, .top, .top, .top, .top, .top, .top, .top, .top, .top, .top, .top, .top, .top, .top, .top, .top, .top, .top, .top, .top, .top, .top, .top, .top, .top, .top, .top, .top, .top, .top, .top, .top, .top, .top, .top, z56, z57, z58] h = obind (aBin .lss z6 (iv 0)) fun v35 => condB v35 (some ((.tup [(iv 0), (iv 6)]), h)) (some ((.tup [z5, (iv 0)]), h)) := by kernel_rfl
noncomputable abbrev c_laws_eqInt64S : Code := (Try.f9.body).getD .skip
noncomputable abbrev nm_laws_eqInt64S : List Bool := namedOf Try.f9
theorem hb_laws_eqInt64S : HasBody Try.prog n_laws_eqInt64S := ⟨Try.f9, _, Try.func9, rfl, by decide⟩
abbrev hm0_laws_eqInt64S : List Bool := [true, true, true, true, false, true, true, true, true, true, true, false, false, false, false, false, false, false, false, false, false, false, false, false, false, false]
abbrev xm0_laws_eqInt64S : List Bool := [true, true, true, true, true, true, true, true, true, true, true, false, false, false, false, false, false, false, false, false, false, false, false, false, false, false]
noncomputable def lb0_laws_eqInt64S (env : Nat → Contract) : TM → Heap → Option Res := fun tm h => denC Try.prog env nm_laws_eqInt64S (atrrlrll c_laws_eqInt64S) Res tm h fun e tm h => some (e, tm, h)
noncomputable def lk0_laws_eqInt64S (env : Nat → Contract) : AX → TM → Heap → Option (AV × Heap) := (kBlock 0 (kSeq Try.prog env nm_laws_eqInt64S (atrrr c_laws_eqInt64S) _ (kRet Try.prog Try.f9.results.toList)))
theorem e_laws_eqInt64S (env : Nat → Contract) (x0 x1 : AV) (h : Heap) : denFn Try.prog env n_laws_eqInt64S [x0, x1] h = obind (aLenK .slice x0) fun v1 => obind (aLenK .slice x1) fun v2 => obind (aCmp .neq .plain v1 v2) fun v3 => condB v3 (some ((bv false), h)) (obind (loopP hm0_laws_eqInt64S xm0_laws_eqInt64S (lb0_laws_eqInt64S env) [x0, x1, und, und, .top, (iv 0), x0, v1, x1, v2, v3, .top, .top, .top, .top, .top, .top, .top, .top, .top, .top, .top, .top, .top, .top, .top] h) fun r => lk0_laws_eqInt64S env r.1 r.2.1 r.2.2) := by kernel_rfl
theorem e_lb0_laws_eqInt64S (env : Nat → Contract) (y0 y1 y2 y3 y5 y6 y7 y8 y9 y10 : AV) (h : Heap) : lb0_laws_eqInt64S env [y0, y1, y2, y3, .top, y5, y6, y7, y8, y9, y10, .top, .top, .top, .top, .top, .top, .top, .top, .top, .top, .top, .top, .top, .top, .top] h = obind (aLenK .slice y0) fun v4 => obind (aBin .lss y5 v4) fun v5 => condB v5 (obind (aIndexAddr 1 y0 y5 h) fun v6 => obind (aLoad false 1 v6 h) fun v7 => obind (aIndexAddr 1 y1 y5 h) fun v8 => obind (aLoad false 1 v8 h) fun v9 => obind (aCmp .neq .plain v7 v9) fun v10 => condB v10 (some (.ret, [y0, y1, y2, y3, (bv false), y5, y6, y7, y8, y9, y10, y5, y0, v4, v5, .top, .top, y0, y5, v6, v7, y1, y5, v8, v9, v10], h)) (obind (aBin .add y5 (iv 1)) fun v11 => some (.normal, [y0, y1, y2, y3, .top, v11, y6, y7, y8, y9, y10, y5, y0, v4, v5, y5, v11, y0, y5, v6, v7, y1, y5, v8, v9, v10], h))) (some (.exit 0, [y0, y1, y2, y3, .top, y5, y6, y7, y8, y9, y10, y5, y0, v4, v5, .top, .top, .top, .top, .top, .top, .top, .top, .top, .top, .top], h)) := by kernel_rfl
theorem e_lk0x0_laws_eqInt64S (env : Nat → Contract) (z0 z1 z2 z3 z4 z5 z6 z7 z8 z9 z10 : AV) (h : Heap) : lk0_laws_eqInt64S env (.exit 0) [z0, z1, z2, z3, z4, z5, z6, z7, z8, z9, z10, .top, .top, .top, .top, .top, .top, .top, .top, .top, .top, .top, .top, .top, .top, .top] h = some ((bv true), h) := by kernel_rfl
theorem e_lk0r_laws_eqInt64S (env : Nat → Contract) (z0 z1 z2 z3 z4 z5 z6 z7 z8 z9 z10 : AV) (h : Heap) : lk0_laws_eqInt64S env .ret [z0, z1, z2, z3, z4, z5, z6, z7, z8, z9, z10, .top, .top, .top, .top, .top, .top, .top, .top, .top, .top, .top, .top, .top, .top, .top] h = some (z4, h) := by kernel_rfl
theorem hb_spec_l19Gap : HasBody Try.prog n_spec_l19Gap := ⟨Try.f25, _, Try.func25, rfl, by decide⟩
theorem e_spec_l19Gap (env : Nat → Contract) (x0 : AV) (h : Heap) : denFn Try.prog env n_spec_l19Gap [x0] h = obind2 (aCall (env n_spec_l00In) [x0, (iv 0), (iv 4095)] h) fun v1 h2 => some (v1, h2) := by kernel_rfl
theorem hb_spec_l00Own : HasBody Try.prog n_spec_l00Own := ⟨Try.f26, _, Try.func26, rfl, by decide⟩
theorem e_spec_l00Own (env : Nat → Contract) (x0 : AV) (h : Heap) : denFn Try.prog env n_spec_l00Own [x0] h = obind2 (aBuildSlice [(iv 0)] 0 [] h) fun v1 h2 => obind2 (aAppend false 1 8 v1 x0 h2) fun v3 h4 => some (v3, h4) := by kernel_rfl
noncomputable abbrev c_spec_l19Spread : Code := (Try.f27.body).getD .skip
noncomputable abbrev nm_spec_l19Spread : List Bool := namedOf Try.f27
theorem hb_spec_l19Spread : HasBody Try.prog n_spec_l19Spread := ⟨Try.f27, _, Try.func27, rfl, by decide⟩
abbrev hm0_spec_l19Spread : List Bool := [true, true, true, true, true, false, false, false, false, false, false, false, false, false, false, false, false, false, false, false, false, false, false, false, false, false, true]
abbrev xm0_spec_l19Spread : List Bool := [true, true, true, true, true, false, false, false, false, false, false, false, false, false, false, false, false, false, false, false, false, false, false, false, false, false, true]
noncomputable def lb0_spec_l19Spread (env : Nat → Contract) : TM → Heap → Option Res := fun tm h => denC Try.prog env nm_spec_l19Spread (atrrlrll c_spec_l19Spread) Res tm h fun e tm h => some (e, tm, h)
noncomputable def lk0_spec_l19Spread (env : Nat → Contract) : AX → TM → Heap → Option (AV × Heap) := (kBlock 0 (kSeq Try.prog env nm_spec_l19Spread (atrrr c_spec_l19Spread) _ (kRet Try.prog Try.f27.results.toList)))
theorem e_spec_l19Spread (env : Nat → Contract) (x0 : AV) (h : Heap) : denFn Try.prog env n_spec_l19Spread [x0] h = obind (loopP hm0_spec_l19Spread xm0_spec_l19Spread (lb0_spec_l19Spread env) [x0, und, (iv 0), (iv 0), (iv 0), .top, .top, .top, .top, .top, .top, .top, .top, .top, .top, .top, .top, .top, .top, .top, .top, .top, .top, .top, .top, .top, und] h) fun r => lk0_spec_l19Spread env r.1 r.2.1 r.2.2 := by kernel_rfl
theorem e_lb0_spec_l19Spread (env : Nat → Contract) (y0 y1 y2 y3 y4 y26 : AV) (h : Heap) : lb0_spec_l19Spread env [y0, y1, y2, y3, y4, .top, .top, .top, .top, .top, .top, .top, .top, .top, .top, .top, .top, .top, .top, .top, .top, .top, .top, .top, .top, .top, y26] h = obind (aLenK .slice y0) fun v1 => obind (aBin .lss y4 v1) fun v2 => condB v2 (obind (aIndexAddr 1 y0 y4 h) fun v3 => obind (aLoad false 1 v3 h) fun v4 => obind (aLenK .slice y0) fun v5 => obind (aBin .sub v5 (iv 1)) fun v6 => obind (aBin .quo v6 (iv 2)) fun v7 => obind (aIndexAddr 1 y0 v7 h) fun v8 => obind (aLoad false 1 v8 h) fun v9 => obind (aBin .sub v4 v9) fun v10 => obind2 (aCallQ (env n_spec_l05Size) [v10] h) fun v11 h12 => obind (aBin .add y3 v11) fun v13 => obind (aBin .add y4 (iv 1)) fun v14 => some (.normal, [y0, y1, y2, v13, v14, y4, y0, v1, v2, y4, v14, y3, y0, y4, v3, v4, y0, y0, v5, v6, v7, v8, v9, v10, v11, v13, y26], h12)) (some (.exit 0, [y0, y1, y2, y3, y4, y4, y0, v1, v2, .top, .top, .top, .top, .top, .top, .top, .top, .top, .top, .top, .top, .top, .top, .top, .top, .top, y26], h)) := by kernel_rfl
theorem e_lk0x0_spec_l19Spread (env : Nat → Contract) (z0 z1 z2 z3 z4 z26 : AV) (h : Heap) : lk0_spec_l19Spread env (.exit 0) [z0, z1, z2, z3, z4, .top, .top, .top, .top, .top, .top, .top, .top, .top, .top, .top, .top, .top, .top, .top, .top, .top, .top, .top, .top, .top, z26] h = some (z3, h) := by kernel_rfl
theorem hb_slices_ContainsFunc_int64_int64 : HasBody Try.prog n_slices_ContainsFunc_int64_int64 := ⟨Try.f28, _, Try.func28, rfl, by decide⟩
theorem e_slices_ContainsFunc_int64_int64 (env : Nat → Contract) (x0 x1 : AV) (h : Heap) : denFn Try.prog env n_slices_ContainsFunc_int64_int64 [x0, x1] h = obind2 (aCall (env n_slices_IndexFunc_int64_int64) [x0, x1] h) fun v1 h2 => obind (aBin .geq v1 (iv 0)) fun v3 => some (v3, h2) := by kernel_rfl
theorem hb_impl_GapLimit_1 : HasBody Try.prog n_impl_GapLimit_1 := ⟨Try.f29, _, Try.func29, rfl, by decide⟩
theorem e_impl_GapLimit_1 (env : Nat → Contract) (x0 : AV) (h : Heap) : denFn Try.prog env n_impl_GapLimit_1 [x0] h = obind2 (aCall (env n_impl_isGap) [x0] h) fun v1 h2 => obind (aUn .not v1) fun v3 => some (v3, h2) := by kernel_rfl
theorem hb_impl_isGap : HasBody Try.prog n_impl_isGap := ⟨Try.f30, _, Try.func30, rfl, by decide⟩
theorem e_impl_isGap (env : Nat → Contract) (x0 : AV) (h : Heap) : denFn Try.prog env n_impl_isGap [x0] h = obind2 (aCall (env n_impl_within) [x0, (iv 0), (iv 4095)] h) fun v1 h2 => some (v1, h2) := by kernel_rfl
theorem hb_slices_Clone_int64_int64 : HasBody Try.prog n_slices_Clone_int64_int64 := ⟨Try.f31, _, Try.func31, rfl, by decide⟩
theorem e_slices_Clone_int64_int64 (env : Nat → Contract) (x0 : AV) (h : Heap) : denFn Try.prog env n_slices_Clone_int64_int64 [x0] h = obind (aCmp .eql .slice x0 nilS) fun v1 => condB v1 (some (nilS, h)) (obind2 (aBuildSlice [(iv 0)] 0 [] h) fun v2 h3 => obind2 (aAppend false 1 8 v2 x0 h3) fun v4 h5 => some (v4, h5)) := by kernel_rfl
theorem hb_slices_Sort_int64_int64 : HasBody Try.prog n_slices_Sort_int64_int64 := ⟨Try.f32, _, Try.func32, rfl, by decide⟩
theorem e_slices_Sort_int64_int64 (env : Nat → Contract) (x0 : AV) (h : Heap) : denFn Try.prog env n_slices_Sort_int64_int64 [x0] h = obind (aLenK .slice x0) fun v1 => obind (aConvInt .u64 v1) fun v2 => obind2 (aCall (env n_math_bits_Len) [v2] h) fun v3 h4 => obind2 (aCall (env n_slices_pdqsortOrdered_int64) [x0, (iv 0), v1, v3] h4) fun v5 h6 => some ((.tup []), h6) := by kernel_rfl
noncomputable abbrev c_impl_spreadOf : Code := (Try.f33.body).getD .skip
noncomputable abbrev nm_impl_spreadOf : List Bool := namedOf Try.f33
theorem hb_impl_spreadOf : HasBody Try.prog n_impl_spreadOf := ⟨Try.f33, _, Try.func33, rfl, by decide⟩
abbrev hm0_impl_spreadOf : List Bool := [true, true, true, true, true, true, false, true, true, true, true, true, true, true, true, true, true, false, false, false, false, false, false, false, false, false, false, true]
abbrev xm0_impl_spreadOf : List Bool := [true, true, true, true, true, true, true, true, true, true, true, true, true, true, true, true, false, false, false, false, false, false, false, false, false, false, false, true]
noncomputable def lb0_impl_spreadOf (env : Nat → Contract) : TM → Heap → Option Res := fun tm h => denC Try.prog env nm_impl_spreadOf (atrrrlrll c_impl_spreadOf) Res tm h fun e tm h => some (e, tm, h)
noncomputable def lk0_impl_spreadOf (env : Nat → Contract) : AX → TM → Heap → Option (AV × Heap) := (kBlock 0 (kSeq Try.prog env nm_impl_spreadOf (atrrrr c_impl_spreadOf) _ (kRet Try.prog Try.f33.results.toList)))
theorem e_impl_spreadOf (env : Nat → Contract) (x0 : AV) (h : Heap) : denFn Try.prog env n_impl_spreadOf [x0] h = obind (aLenK .slice x0) fun v1 => obind (aBin .sub v1 (iv 1)) fun v2 => obind (aBin .quo v2 (iv 2)) fun v3 => obind (aIndexAddr 1 x0 v3 h) fun v4 => obind (aLoad false 1 v4 h) fun v5 => obind (aLenK .slice x0) fun v6 => obind (loopP hm0_impl_spreadOf xm0_impl_spreadOf (lb0_impl_spreadOf env) [x0, und, (iv 0), v5, (iv 0), und, .top, x0, x0, v1, v2, v3, v4, v5, x0, v6, (iv 0), .top, .top, .top, .top, .top, .top, .top, .top, .top, .top, und] h) fun r => lk0_impl_spreadOf env r.1 r.2.1 r.2.2 := by kernel_rfl
theorem e_lb0_impl_spreadOf (env : Nat → Contract) (y0 y1 y2 y3 y4 y5 y7 y8 y9 y10 y11 y12 y13 y14 y15 y16 y27 : AV) (h : Heap) : lb0_impl_spreadOf env [y0, y1, y2, y3, y4, y5, .top, y7, y8, y9, y10, y11, y12, y13, y14, y15, y16, .top, .top, .top, .top, .top, .top, .top, .top, .top, .top, y27] h = obind (aBin .lss y16 y15) fun v7 => condB v7 (obind (aIndexAddr 1 y14 y16 h) fun v8 => obind (aLoad false 1 v8 h) fun v9 => obind (aBin .sub v9 y3) fun v10 => obind2 (aCall (env n_impl_abs) [v10] h) fun v11 h12 => obind (aBin .add y4 v11) fun v13 => obind (aBin .add y16 (iv 1)) fun v14 => some (.normal, [y0, y1, y2, y3, v13, y5, v9, y7, y8, y9, y10, y11, y12, y13, y14, y15, v14, v7, v8, v9, y4, v9, y3, v10, v11, v13, v14, y27], h12)) (some (.exit 0, [y0, y1, y2, y3, y4, y5, .top, y7, y8, y9, y10, y11, y12, y13, y14, y15, y16, v7, .top, .top, .top, .top, .top, .top, .top, .top, .top, y27], h)) := by kernel_rfl
theorem e_lk0x0_impl_spreadOf (env : Nat → Contract) (z0 z1 z2 z3 z4 z5 z6 z7 z8 z9 z10 z11 z12 z13 z14 z15 z27 : AV) (h : Heap) : lk0_impl_spreadOf env (.exit 0) [z0, z1, z2, z3, z4, z5, z6, z7, z8, z9, z10, z11, z12, z13, z14, z15, .top, .top, .top, .top, .top, .top, .top, .top, .top, .top, .top, z27] h = some (z4, h) := by kernel_rfl
theorem hb_spec_l00In : HasBody Try.prog n_spec_l00In := ⟨Try.f55, _, Try.func55, rfl, by decide⟩
theorem e_spec_l00In (env : Nat → Contract) (x0 x1 x2 : AV) (h : Heap) : denFn Try.prog env n_spec_l00In [x0, x1, x2] h = obind (aBin .geq x0 x1) fun v1 => obind2 (guardB v1 true (obind (aBin .leq x0 x2) fun v2 => some (v2, h)) (some (und, h))) fun v3 h4 => obind (aPick v1 v3 (bv false)) fun v5 => some (v5, h4) := by kernel_rfl
theorem hb_impl_within : HasBody Try.prog n_impl_within := ⟨Try.f56, _, Try.func56, rfl, by decide⟩
theorem e_impl_within (env : Nat → Contract) (x0 x1 x2 : AV) (h : Heap) : denFn Try.prog env n_impl_within [x0, x1, x2] h = obind (aBin .geq x0 x1) fun v1 => obind2 (guardB v1 true (obind (aBin .leq x0 x2) fun v2 => some (v2, h)) (some (und, h))) fun v3 h4 => obind (aPick v1 v3 (bv false)) fun v5 => some (v5, h4) := by kernel_rfl
theorem hb_spec_l05Size : HasBody Try.prog n_spec_l05Size := ⟨Try.f57, _, Try.func57, rfl, by decide⟩
theorem e_spec_l05Size (env : Nat → Contract) (x0 : AV) (h : Heap) : denFn Try.prog env n_spec_l05Size [x0] h = obind (aBin .lss x0 (iv 0)) fun v1 => condB v1 (obind (aUn .neg x0) fun v2 => some (v2, h)) (some (x0, h)) := by kernel_rfl
noncomputable abbrev c_slices_IndexFunc_int64_int64 : Code := (Try.f58.body).getD .skip
noncomputable abbrev nm_slices_IndexFunc_int64_int64 : List Bool := namedOf Try.f58
theorem hb_slices_IndexFunc_int64_int64 : HasBody Try.prog n_slices_IndexFunc_int64_int64 := ⟨Try.f58, _, Try.func58, rfl, by decide⟩
abbrev hm0_slices_IndexFunc_int64_int64 : List Bool := [true, true, true, true, false, false, true, true, true, false, false, false, false, false, false, false, false, false, false]
abbrev xm0_slices_IndexFunc_int64_int64 : List Bool := [true, true, true, true, true, true, true, true, false, false, false, false, false, false, false, false, false, false, false]
noncomputable def lb0_slices_IndexFunc_int64_int64 (env : Nat → Contract) : TM → Heap → Option Res := fun tm h => denC Try.prog env nm_slices_IndexFunc_int64_int64 (atrlrll c_slices_IndexFunc_int64_int64) Res tm h fun e tm h => some (e, tm, h)
noncomputable def lk0_slices_IndexFunc_int64_int64 (env : Nat → Contract) : AX → TM → Heap → Option (AV × Heap) := (kBlock 0 (kSeq Try.prog env nm_slices_IndexFunc_int64_int64 (atrr c_slices_IndexFunc_int64_int64) _ (kRet Try.prog Try.f58.results.toList)))
theorem e_slices_IndexFunc_int64_int64 (env : Nat → Contract) (x0 x1 : AV) (h : Heap) : denFn Try.prog env n_slices_IndexFunc_int64_int64 [x0, x1] h = obind (aLenK .slice x0) fun v1 => obind (loopP hm0_slices_IndexFunc_int64_int64 xm0_slices_IndexFunc_int64_int64 (lb0_slices_IndexFunc_int64_int64 env) [x0, x1, und, und, .top, .top, x0, v1, (iv 0), .top, .top, .top, .top, .top, .top, .top, .top, .top, .top] h) fun r => lk0_slices_IndexFunc_int64_int64 env r.1 r.2.1 r.2.2 := by kernel_rfl
theorem e_lb0_slices_IndexFunc_int64_int64 (env : Nat → Contract) (y0 y1 y2 y3 y6 y7 y8 : AV) (h : Heap) : lb0_slices_IndexFunc_int64_int64 env [y0, y1, y2, y3, .top, .top, y6, y7, y8, .top, .top, .top, .top, .top, .top, .top, .top, .top, .top] h = obind (aBin .lss y8 y7) fun v2 => condB v2 (obind (aIndexAddr 1 y0 y8 h) fun v3 => obind (aLoad false 1 v3 h) fun v4 => (match y1 with | .fn g5 c6 => obind2 (aCall (env g5) ([v4] ++ c6) h) fun v7 h8 => condB v7 (some (.ret, [y0, y1, y2, y3, y8, y8, y6, y7, y8, v2, y8, y1, y0, y8, v3, v4, v7, y8, .top], h8)) (obind (aBin .add y8 (iv 1)) fun v9 => some (.normal, [y0, y1, y2, y3, .top, y8, y6, y7, v9, v2, y8, y1, y0, y8, v3, v4, v7, .top, v9], h8)) | _ => none)) (some (.exit 0, [y0, y1, y2, y3, .top, .top, y6, y7, y8, v2, .top, .top, .top, .top, .top, .top, .top, .top, .top], h)) := by kernel_rfl
theorem e_lk0x0_slices_IndexFunc_int64_int64 (env : Nat → Contract) (z0 z1 z2 z3 z4 z5 z6 z7 : AV) (h : Heap) : lk0_slices_IndexFunc_int64_int64 env (.exit 0) [z0, z1, z2, z3, z4, z5, z6, z7, .top, .top, .top, .top, .top, .top, .top, .top, .top, .top, .top] h = some ((iv (-1)), h) := by kernel_rfl
theorem e_lk0r_slices_IndexFunc_int64_int64 (env : Nat → Contract) (z0 z1 z2 z3 z4 z5 z6 z7 : AV) (h : Heap) : lk0_slices_IndexFunc_int64_int64 env .ret [z0, z1, z2, z3, z4, z5, z6, z7, .top, .top, .top, .top, .top, .top, .top, .top, .top, .top, .top] h = some (z4, h) := by kernel_rfl
theorem hb_impl_abs : HasBody Try.prog n_impl_abs := ⟨Try.f61, _, Try.func61, rfl, by decide⟩
theorem e_impl_abs (env : Nat → Contract) (x0 : AV) (h : Heap) : denFn Try.prog env n_impl_abs [x0] h = obind (aBin .lss x0 (iv 0)) fun v1 => condB v1 (obind (aUn .neg x0) fun v2 => some (v2, h)) (some (x0, h)) := by kernel_rfl
section
open Go.Proofs Go.Shelf
def laySort_ren : Go.Shelf.Ren := ⟨fun | 5 => 32 | 8 => 60 | 7 => 59 | 19 => 98 | 20 => 99 | 10 => 89 | 11 => 90 | 12 => 91 | 13 => 92 | 14 => 93 | 15 => 94 | 16 => 95 | 17 => 96 | 18 => 97 | 30 => 108 | 31 => 109 | 32 => 110 | 33 => 111 | 34 => 112 | 35 => 113 | 40 => 115 | n => n, fun | 23 => 22 | 25 => 2 | 3 => 3 | 32 => 96 | 22 => 22 | 0 => 0 | 44 => 134 | 46 => 110 | 4 => 4 | 36 => 127 | 35 => 126 | 41 => 75 | 5 => 5 | 9 => 9 | 53 => 139 | 57 => 143 | 63 => 146 | 64 => 147 | n => n, fun | n => n⟩
theorem laySort : Go.Proofs.SlLaysM.n5 Try.prog laySort_ren := {
  mixed := by kernel_rfl
  f5 := ⟨Try.f32.name, by decide, Try.func32.trans (congrArg some (by kernel_rfl))⟩
  f7 := ⟨Try.f59.name, by decide, Try.func59.trans (congrArg some (by kernel_rfl))⟩
  f8 := Try.func60.trans (congrArg some (by kernel_rfl))
  f10 := ⟨Try.f89.name, by decide, Try.func89.trans (congrArg some (by kernel_rfl))⟩
  f11 := ⟨Try.f90.name, by decide, Try.func90.trans (congrArg some (by kernel_rfl))⟩
  f12 := ⟨Try.f91.name, by decide, Try.func91.trans (congrArg some (by kernel_rfl))⟩
  f13 := ⟨Try.f92.name, by decide, Try.func92.trans (congrArg some (by kernel_rfl))⟩
  f14 := ⟨Try.f93.name, by decide, Try.func93.trans (congrArg some (by kernel_rfl))⟩
  f15 := ⟨Try.f94.name, by decide, Try.func94.trans (congrArg some (by kernel_rfl))⟩
  f16 := ⟨Try.f95.name, by decide, Try.func95.trans (congrArg some (by kernel_rfl))⟩
  f17 := ⟨Try.f96.name, by decide, Try.func96.trans (congrArg some (by kernel_rfl))⟩
  f18 := ⟨Try.f97.name, by decide, Try.func97.trans (congrArg some (by kernel_rfl))⟩
  f19 := Try.func98.trans (congrArg some (by kernel_rfl))
  f20 := Try.func99.trans (congrArg some (by kernel_rfl))
  f30 := ⟨Try.f108.name, by decide, Try.func108.trans (congrArg some (by kernel_rfl))⟩
  f31 := Try.func109.trans (congrArg some (by kernel_rfl))
  f32 := Try.func110.trans (congrArg some (by kernel_rfl))
  f33 := ⟨Try.f111.name, by decide, Try.func111.trans (congrArg some (by kernel_rfl))⟩
  f34 := ⟨Try.f112.name, by decide, Try.func112.trans (congrArg some (by kernel_rfl))⟩
  f35 := ⟨Try.f113.name, by decide, Try.func113.trans (congrArg some (by kernel_rfl))⟩
  f40 := ⟨Try.f115.name, by decide, Try.func115.trans (congrArg some (by kernel_rfl))⟩
  t0 := Try.underlying0
  a0 := Try.isAgg0
  z0 := Try.sizeOf0
  v0 := Try.zeroValue0
  t3 := Try.underlying3
  a3 := Try.isAgg3
  z3 := Try.sizeOf3
  v3 := Try.zeroValue3
  t4 := Try.underlying4
  a4 := Try.isAgg4
  z4 := Try.sizeOf4
  v4 := Try.zeroValue4
  t5 := Try.underlying5
  a5 := Try.isAgg5
  z5 := Try.sizeOf5
  v5 := Try.zeroValue5
  t9 := Try.underlying9
  a9 := Try.isAgg9
  z9 := Try.sizeOf9
  v9 := Try.zeroValue9
  t22 := Try.underlying22
  a22 := Try.isAgg22
  z22 := Try.sizeOf22
  v22 := Try.zeroValue22
  t23 := Try.underlying22
  a23 := Try.isAgg22
  z23 := Try.sizeOf22
  v23 := Try.zeroValue22
  t25 := Try.underlying2
  a25 := Try.isAgg2
  z25 := Try.sizeOf2
  v25 := Try.zeroValue2
  t32 := Try.underlying96
  a32 := Try.isAgg96
  z32 := Try.sizeOf96
  v32 := Try.zeroValue96
  t35 := Try.underlying126
  a35 := Try.isAgg126
  z35 := Try.sizeOf126
  v35 := Try.zeroValue126
  t36 := Try.underlying127
  a36 := Try.isAgg127
  z36 := Try.sizeOf127
  v36 := Try.zeroValue127
  t41 := Try.underlying75
  a41 := Try.isAgg75
  z41 := Try.sizeOf75
  v41 := Try.zeroValue75
  t44 := Try.underlying134
  a44 := Try.isAgg134
  z44 := Try.sizeOf134
  v44 := Try.zeroValue134
  t46 := Try.underlying110
  a46 := Try.isAgg110
  z46 := Try.sizeOf110
  v46 := Try.zeroValue110
  t53 := Try.underlying139
  a53 := Try.isAgg139
  z53 := Try.sizeOf139
  v53 := Try.zeroValue139
  t57 := Try.underlying143
  a57 := Try.isAgg143
  z57 := Try.sizeOf143
  v57 := Try.zeroValue143
  t63 := Try.underlying146
  a63 := Try.isAgg146
  z63 := Try.sizeOf146
  v63 := Try.zeroValue146
  t64 := Try.underlying147
  a64 := Try.isAgg147
  z64 := Try.sizeOf147
  v64 := Try.zeroValue147 }
end
end Go.Proofs.Ytpmpdapafoifiaa
