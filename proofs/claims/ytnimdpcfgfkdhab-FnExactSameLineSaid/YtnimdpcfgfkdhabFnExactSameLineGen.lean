/-
  The runs of the functions of this seat, in open form. Printed by a program of mine (gen.py).
-/
import Derived.Test.YtnimdpcfgfkdhabProg
import Derived.Test.YtnimdpcfgfkdhabEngKit
namespace Go.Proofs.Ytnimdpcfgfkdhab
open Go Go.Eng

@[simp] abbrev n_laws_FnExactSameLine : Nat := 3
@[simp] abbrev n_laws_FnExactMakeFraction : Nat := 4
@[simp] abbrev n_laws_FnExactAddFractions : Nat := 5
@[simp] abbrev n_laws_FnExactTimesFractions : Nat := 6
@[simp] abbrev n_laws_FnExactSameTree : Nat := 7
@[simp] abbrev n_laws_FnExactSameSymbols : Nat := 8
@[simp] abbrev n_laws_szLine : Nat := 9
@[simp] abbrev n_spec_SameLine : Nat := 10
@[simp] abbrev n_laws_toLine : Nat := 11
@[simp] abbrev n_impl_SameLine : Nat := 12
@[simp] abbrev n_laws_eqLine : Nat := 13
@[simp] abbrev n_spec_MakeFraction : Nat := 14
@[simp] abbrev n_impl_MakeFraction : Nat := 15
@[simp] abbrev n_laws_eqFraction : Nat := 16
@[simp] abbrev n_spec_AddFractions : Nat := 17
@[simp] abbrev n_laws_toFraction : Nat := 18
@[simp] abbrev n_impl_AddFractions : Nat := 19
@[simp] abbrev n_spec_TimesFractions : Nat := 20
@[simp] abbrev n_impl_TimesFractions : Nat := 21
@[simp] abbrev n_laws_szTree : Nat := 22
@[simp] abbrev n_spec_SameTree : Nat := 23
@[simp] abbrev n_laws_toTree : Nat := 24
@[simp] abbrev n_impl_SameTree : Nat := 25
@[simp] abbrev n_laws_eqTree : Nat := 26
@[simp] abbrev n_laws_szSymbolS : Nat := 27
@[simp] abbrev n_spec_SameSymbols : Nat := 28
@[simp] abbrev n_laws_toSymbolS : Nat := 29
@[simp] abbrev n_impl_SameSymbols : Nat := 30
@[simp] abbrev n_laws_eqSymbolS : Nat := 31
@[simp] abbrev n_laws_szInt64S : Nat := 32
@[simp] abbrev n_spec_l00Same : Nat := 33
@[simp] abbrev n_laws_toInt64S : Nat := 34
@[simp] abbrev n_slices_Equal_int64_int64 : Nat := 35
@[simp] abbrev n_laws_eqInt64S : Nat := 36
@[simp] abbrev n_spec_l00In : Nat := 37
@[simp] abbrev n_spec_l22Code : Nat := 38
@[simp] abbrev n_spec_l22Make : Nat := 39
@[simp] abbrev n_impl_within : Nat := 40
@[simp] abbrev n_impl_reduced : Nat := 41
@[simp] abbrev n_spec_l22Ok : Nat := 42
@[simp] abbrev n_impl_ValidFraction : Nat := 43
@[simp] abbrev n_laws_szTreeNodeS : Nat := 44
@[simp] abbrev n_laws_toTreeNodeS : Nat := 45
@[simp] abbrev n_slices_Equal_impl_TreeNode_impl_TreeNode : Nat := 46
@[simp] abbrev n_laws_eqTreeNodeS : Nat := 47
@[simp] abbrev n_laws_szSymbol : Nat := 48
@[simp] abbrev n_laws_toSymbol : Nat := 49
@[simp] abbrev n_slices_Equal_impl_Symbol_impl_Symbol : Nat := 50
@[simp] abbrev n_laws_eqSymbol : Nat := 51
@[simp] abbrev n_spec_l22Gcd : Nat := 52
@[simp] abbrev n_spec_l05Size : Nat := 53
@[simp] abbrev n_impl_gcd : Nat := 54
@[simp] abbrev n_laws_toTreeNode : Nat := 55
@[simp] abbrev n_laws_eqTreeNode : Nat := 56
@[simp] abbrev n_laws_toBox : Nat := 57
@[simp] abbrev n_laws_eqBox : Nat := 58
@[simp] abbrev n_impl_abs : Nat := 59
theorem mixed : Try.prog.follows .mixedOrders = true := by kernel_rfl
abbrev atrrr (c : Code) : Code := (codeR (codeR (codeR c)))
abbrev atrrlrll (c : Code) : Code := (codeL (codeL (codeR (codeL (codeR (codeR c))))))
theorem hb_laws_FnExactSameLine : HasBody Try.prog n_laws_FnExactSameLine := ⟨Try.f3, _, Try.func3, rfl, by decide⟩
theorem e_laws_FnExactSameLine (env : Nat → Contract) (x0 x1 : AV) (h : Heap) : denFn Try.prog env n_laws_FnExactSameLine [x0, x1] h = obind2 (aBox (AV.cells x0) h) fun v1 h2 => obind2 (aBox (AV.cells x1) h2) fun v3 h4 => obind (aLoad true 3 v1 h4) fun v5 => obind2 (aCall (env n_laws_szLine) [v5, (iv 1048576)] h4) fun v6 h7 => obind (aBin .lss v6 (iv 0)) fun v8 => condB v8 (some ((bv true), h7)) (obind (aLoad true 3 v3 h7) fun v9 => obind2 (aCall (env n_laws_szLine) [v9, v6] h7) fun v10 h11 => obind (aBin .lss v10 (iv 0)) fun v12 => condB v12 (some ((bv true), h11)) (obind (aLoad true 3 v1 h11) fun v13 => obind2 (aCallQ (env n_laws_toLine) [v13] h11) fun v14 h15 => obind (aLoad true 3 v3 h15) fun v16 => obind2 (aCallQ (env n_laws_toLine) [v16] h15) fun v17 h18 => obind2 (aCallQ (env n_spec_SameLine) [v14, v17] h18) fun v19 h20 => obind (aLoad true 3 v1 h20) fun v21 => obind2 (aCall (env n_laws_toLine) [v21] h20) fun v22 h23 => obind2 (aBox [(iv 0), (iv 0), nilS] h23) fun v24 h25 => obind (aStore 3 v24 v22 h25) fun h26 => obind (aLoad true 3 v3 h26) fun v27 => obind2 (aCall (env n_laws_toLine) [v27] h26) fun v28 h29 => obind2 (aBox [(iv 0), (iv 0), nilS] h29) fun v30 h31 => obind (aStore 3 v30 v28 h31) fun h32 => obind (aLoad true 3 v24 h32) fun v33 => obind (aLoad true 3 v30 h32) fun v34 => obind2 (aCall (env n_impl_SameLine) [v33, v34] h32) fun v35 h36 => obind (aCmp .neq .bool v35 v19) fun v37 => condB v37 (some ((bv false), h36)) (obind (aLoad true 3 v24 h36) fun v38 => obind (aLoad true 3 v1 h36) fun v39 => obind2 (aCallQ (env n_laws_toLine) [v39] h36) fun v40 h41 => obind2 (aCallQ (env n_laws_eqLine) [v38, v40] h41) fun v42 h43 => obind (aUn .not v42) fun v44 => condB v44 (some ((bv false), h43)) (obind (aLoad true 3 v30 h43) fun v45 => obind (aLoad true 3 v3 h43) fun v46 => obind2 (aCallQ (env n_laws_toLine) [v46] h43) fun v47 h48 => obind2 (aCallQ (env n_laws_eqLine) [v45, v47] h48) fun v49 h50 => obind (aUn .not v49) fun v51 => condB v51 (some ((bv false), h50)) (some ((bv true), h50)))))) := by kernel_rfl
theorem hb_laws_szLine : HasBody Try.prog n_laws_szLine := ⟨Try.f9, _, Try.func9, rfl, by decide⟩
theorem e_laws_szLine (env : Nat → Contract) (x0 x1 : AV) (h : Heap) : denFn Try.prog env n_laws_szLine [x0, x1] h = obind2 (aBox (AV.cells x0) h) fun v1 h2 => obind (aFieldAddr 2 v1) fun v3 => obind (aLoad false 1 v3 h2) fun v4 => obind2 (aCall (env n_laws_szInt64S) [v4, x1] h2) fun v5 h6 => obind (aBin .lss v5 (iv 0)) fun v7 => condB v7 (some ((iv (-1)), h6)) (some (v5, h6)) := by kernel_rfl
theorem hb_spec_SameLine : HasBody Try.prog n_spec_SameLine := ⟨Try.f10, _, Try.func10, rfl, by decide⟩
theorem e_spec_SameLine (env : Nat → Contract) (x0 x1 : AV) (h : Heap) : denFn Try.prog env n_spec_SameLine [x0, x1] h = obind2 (aBox (AV.cells x0) h) fun v1 h2 => obind2 (aBox (AV.cells x1) h2) fun v3 h4 => obind (aFieldAddr 0 v1) fun v5 => obind (aLoad false 1 v5 h4) fun v6 => obind (aFieldAddr 0 v3) fun v7 => obind (aLoad false 1 v7 h4) fun v8 => obind (aCmp .eql .plain v6 v8) fun v9 => obind2 (guardB v9 true (obind (aFieldAddr 1 v1) fun v10 => obind (aLoad false 1 v10 h4) fun v11 => obind (aFieldAddr 1 v3) fun v12 => obind (aLoad false 1 v12 h4) fun v13 => obind (aCmp .eql .plain v11 v13) fun v14 => some (v14, h4)) (some (und, h4))) fun v15 h16 => obind (aPick v9 v15 (bv false)) fun v17 => obind2 (guardB v17 true (obind (aFieldAddr 2 v1) fun v18 => obind (aLoad false 1 v18 h16) fun v19 => obind (aFieldAddr 2 v3) fun v20 => obind (aLoad false 1 v20 h16) fun v21 => obind2 (aCall (env n_spec_l00Same) [v19, v21] h16) fun v22 h23 => some (v22, h23)) (some (und, h16))) fun v24 h25 => obind (aPick v17 v24 (bv false)) fun v26 => some (v26, h25) := by kernel_rfl
theorem hb_laws_toLine : HasBody Try.prog n_laws_toLine := ⟨Try.f11, _, Try.func11, rfl, by decide⟩
theorem e_laws_toLine (env : Nat → Contract) (x0 : AV) (h : Heap) : denFn Try.prog env n_laws_toLine [x0] h = obind2 (aBox (AV.cells x0) h) fun v1 h2 => obind2 (aBox [(iv 0), (iv 0), nilS] h2) fun v3 h4 => obind2 (aBox [(iv 0), (iv 0), nilS] h4) fun v5 h6 => obind (aFieldAddr 0 v1) fun v7 => obind (aLoad false 1 v7 h6) fun v8 => obind (aFieldAddr 0 v5) fun v9 => obind (aStore 1 v9 v8 h6) fun h10 => obind (aFieldAddr 1 v1) fun v11 => obind (aLoad false 1 v11 h10) fun v12 => obind (aFieldAddr 1 v5) fun v13 => obind (aStore 1 v13 v12 h10) fun h14 => obind (aFieldAddr 2 v1) fun v15 => obind (aLoad false 1 v15 h14) fun v16 => obind2 (aCall (env n_laws_toInt64S) [v16] h14) fun v17 h18 => obind (aFieldAddr 2 v5) fun v19 => obind (aStore 1 v19 v17 h18) fun h20 => obind (aLoad true 3 v5 h20) fun v21 => obind (aStore 3 v3 v21 h20) fun h22 => retL [.c true 3 v3] h22 := by kernel_rfl
theorem hb_impl_SameLine : HasBody Try.prog n_impl_SameLine := ⟨Try.f12, _, Try.func12, rfl, by decide⟩
theorem e_impl_SameLine (env : Nat → Contract) (x0 x1 : AV) (h : Heap) : denFn Try.prog env n_impl_SameLine [x0, x1] h = obind2 (aBox (AV.cells x0) h) fun v1 h2 => obind2 (aBox (AV.cells x1) h2) fun v3 h4 => obind (aFieldAddr 0 v1) fun v5 => obind (aLoad false 1 v5 h4) fun v6 => obind (aFieldAddr 0 v3) fun v7 => obind (aLoad false 1 v7 h4) fun v8 => obind (aCmp .eql .plain v6 v8) fun v9 => obind2 (guardB v9 true (obind (aFieldAddr 1 v1) fun v10 => obind (aLoad false 1 v10 h4) fun v11 => obind (aFieldAddr 1 v3) fun v12 => obind (aLoad false 1 v12 h4) fun v13 => obind (aCmp .eql .plain v11 v13) fun v14 => some (v14, h4)) (some (und, h4))) fun v15 h16 => obind (aPick v9 v15 (bv false)) fun v17 => obind2 (guardB v17 true (obind (aFieldAddr 2 v1) fun v18 => obind (aLoad false 1 v18 h16) fun v19 => obind (aFieldAddr 2 v3) fun v20 => obind (aLoad false 1 v20 h16) fun v21 => obind2 (aCall (env n_slices_Equal_int64_int64) [v19, v21] h16) fun v22 h23 => some (v22, h23)) (some (und, h16))) fun v24 h25 => obind (aPick v17 v24 (bv false)) fun v26 => some (v26, h25) := by kernel_rfl
theorem hb_laws_eqLine : HasBody Try.prog n_laws_eqLine := ⟨Try.f13, _, Try.func13, rfl, by decide⟩
theorem e_laws_eqLine (env : Nat → Contract) (x0 x1 : AV) (h : Heap) : denFn Try.prog env n_laws_eqLine [x0, x1] h = obind2 (aBox (AV.cells x0) h) fun v1 h2 => obind2 (aBox (AV.cells x1) h2) fun v3 h4 => obind (aFieldAddr 0 v1) fun v5 => obind (aLoad false 1 v5 h4) fun v6 => obind (aFieldAddr 0 v3) fun v7 => obind (aLoad false 1 v7 h4) fun v8 => obind (aCmp .neq .plain v6 v8) fun v9 => condB v9 (some ((bv false), h4)) (obind (aFieldAddr 1 v1) fun v10 => obind (aLoad false 1 v10 h4) fun v11 => obind (aFieldAddr 1 v3) fun v12 => obind (aLoad false 1 v12 h4) fun v13 => obind (aCmp .neq .plain v11 v13) fun v14 => condB v14 (some ((bv false), h4)) (obind (aFieldAddr 2 v1) fun v15 => obind (aLoad false 1 v15 h4) fun v16 => obind (aFieldAddr 2 v3) fun v17 => obind (aLoad false 1 v17 h4) fun v18 => obind2 (aCall (env n_laws_eqInt64S) [v16, v18] h4) fun v19 h20 => obind (aUn .not v19) fun v21 => condB v21 (some ((bv false), h20)) (some ((bv true), h20)))) := by kernel_rfl
theorem hb_laws_szInt64S : HasBody Try.prog n_laws_szInt64S := ⟨Try.f32, _, Try.func32, rfl, by decide⟩
theorem e_laws_szInt64S (env : Nat → Contract) (x0 x1 : AV) (h : Heap) : denFn Try.prog env n_laws_szInt64S [x0, x1] h = obind (aLenK .slice x0) fun v1 => obind (aBin .sub x1 v1) fun v2 => obind (aBin .lss v2 (iv 0)) fun v3 => condB v3 (some ((iv (-1)), h)) (some (v2, h)) := by kernel_rfl
noncomputable abbrev c_spec_l00Same : Code := (Try.f33.body).getD .skip
noncomputable abbrev nm_spec_l00Same : List Bool := namedOf Try.f33
theorem hb_spec_l00Same : HasBody Try.prog n_spec_l00Same := ⟨Try.f33, _, Try.func33, rfl, by decide⟩
abbrev hm0_spec_l00Same : List Bool := [true, true, true, true, false, true, true, true, true, true, true, false, false, false, false, false, false, false, false, false, false, false, false, false, false, false]
abbrev xm0_spec_l00Same : List Bool := [true, true, true, true, true, true, true, true, true, true, true, false, false, false, false, false, false, false, false, false, false, false, false, false, false, false]
noncomputable def lb0_spec_l00Same (env : Nat → Contract) : TM → Heap → Option Res := fun tm h => denC Try.prog env nm_spec_l00Same (atrrlrll c_spec_l00Same) Res tm h fun e tm h => some (e, tm, h)
noncomputable def lk0_spec_l00Same (env : Nat → Contract) : AX → TM → Heap → Option (AV × Heap) := (kBlock 0 (kSeq Try.prog env nm_spec_l00Same (atrrr c_spec_l00Same) _ (kRet Try.prog Try.f33.results.toList)))
theorem e_spec_l00Same (env : Nat → Contract) (x0 x1 : AV) (h : Heap) : denFn Try.prog env n_spec_l00Same [x0, x1] h = obind (aLenK .slice x0) fun v1 => obind (aLenK .slice x1) fun v2 => obind (aCmp .neq .plain v1 v2) fun v3 => condB v3 (some ((bv false), h)) (obind (loopP hm0_spec_l00Same xm0_spec_l00Same (lb0_spec_l00Same env) [x0, x1, und, und, .top, (iv 0), x0, v1, x1, v2, v3, .top, .top, .top, .top, .top, .top, .top, .top, .top, .top, .top, .top, .top, .top, .top] h) fun r => lk0_spec_l00Same env r.1 r.2.1 r.2.2) := by kernel_rfl
theorem e_lb0_spec_l00Same (env : Nat → Contract) (y0 y1 y2 y3 y5 y6 y7 y8 y9 y10 : AV) (h : Heap) : lb0_spec_l00Same env [y0, y1, y2, y3, .top, y5, y6, y7, y8, y9, y10, .top, .top, .top, .top, .top, .top, .top, .top, .top, .top, .top, .top, .top, .top, .top] h = obind (aLenK .slice y0) fun v4 => obind (aBin .lss y5 v4) fun v5 => condB v5 (obind (aIndexAddr 1 y0 y5 h) fun v6 => obind (aLoad false 1 v6 h) fun v7 => obind (aIndexAddr 1 y1 y5 h) fun v8 => obind (aLoad false 1 v8 h) fun v9 => obind (aCmp .neq .plain v7 v9) fun v10 => condB v10 (some (.ret, [y0, y1, y2, y3, (bv false), y5, y6, y7, y8, y9, y10, y5, y0, v4, v5, .top, .top, y0, y5, v6, v7, y1, y5, v8, v9, v10], h)) (obind (aBin .add y5 (iv 1)) fun v11 => some (.normal, [y0, y1, y2, y3, .top, v11, y6, y7, y8, y9, y10, y5, y0, v4, v5, y5, v11, y0, y5, v6, v7, y1, y5, v8, v9, v10], h))) (some (.exit 0, [y0, y1, y2, y3, .top, y5, y6, y7, y8, y9, y10, y5, y0, v4, v5, .top, .top, .top, .top, .top, .top, .top, .top, .top, .top, .top], h)) := by kernel_rfl
theorem e_lk0x0_spec_l00Same (env : Nat → Contract) (z0 z1 z2 z3 z4 z5 z6 z7 z8 z9 z10 : AV) (h : Heap) : lk0_spec_l00Same env (.exit 0) [z0, z1, z2, z3, z4, z5, z6, z7, z8, z9, z10, .top, .top, .top, .top, .top, .top, .top, .top, .top, .top, .top, .top, .top, .top, .top] h = some ((bv true), h) := by kernel_rfl
theorem e_lk0r_spec_l00Same (env : Nat → Contract) (z0 z1 z2 z3 z4 z5 z6 z7 z8 z9 z10 : AV) (h : Heap) : lk0_spec_l00Same env .ret [z0, z1, z2, z3, z4, z5, z6, z7, z8, z9, z10, .top, .top, .top, .top, .top, .top, .top, .top, .top, .top, .top, .top, .top, .top, .top] h = some (z4, h) := by kernel_rfl
noncomputable abbrev c_laws_toInt64S : Code := (Try.f34.body).getD .skip
noncomputable abbrev nm_laws_toInt64S : List Bool := namedOf Try.f34
theorem hb_laws_toInt64S : HasBody Try.prog n_laws_toInt64S := ⟨Try.f34, _, Try.func34, rfl, by decide⟩
abbrev hm0_laws_toInt64S : List Bool := [true, true, true, true, true, true, true, true, false, false, false, false, false, false, false, false, false, false, false, false, false, true]
abbrev xm0_laws_toInt64S : List Bool := [true, true, true, true, true, true, true, true, false, false, false, false, false, false, false, false, false, false, false, false, false, true]
noncomputable def lb0_laws_toInt64S (env : Nat → Contract) : TM → Heap → Option Res := fun tm h => denC Try.prog env nm_laws_toInt64S (atrrlrll c_laws_toInt64S) Res tm h fun e tm h => some (e, tm, h)
noncomputable def lk0_laws_toInt64S (env : Nat → Contract) : AX → TM → Heap → Option (AV × Heap) := (kBlock 0 (kSeq Try.prog env nm_laws_toInt64S (atrrr c_laws_toInt64S) _ (kRet Try.prog Try.f34.results.toList)))
theorem e_laws_toInt64S (env : Nat → Contract) (x0 : AV) (h : Heap) : denFn Try.prog env n_laws_toInt64S [x0] h = obind (aLenK .slice x0) fun v1 => obind2 (aMakeSlice [(iv 0)] 8 v1 v1 h) fun v2 h3 => obind (loopP hm0_laws_toInt64S xm0_laws_toInt64S (lb0_laws_toInt64S env) [x0, und, nilS, v2, (iv 0), x0, v1, v2, .top, .top, .top, .top, .top, .top, .top, .top, .top, .top, .top, .top, .top, und] h3) fun r => lk0_laws_toInt64S env r.1 r.2.1 r.2.2 := by kernel_rfl
theorem e_lb0_laws_toInt64S (env : Nat → Contract) (y0 y1 y2 y3 y4 y5 y6 y7 y21 : AV) (h : Heap) : lb0_laws_toInt64S env [y0, y1, y2, y3, y4, y5, y6, y7, .top, .top, .top, .top, .top, .top, .top, .top, .top, .top, .top, .top, .top, y21] h = obind (aLenK .slice y0) fun v4 => obind (aBin .lss y4 v4) fun v5 => condB v5 (obind (aIndexAddr 1 y0 y4 h) fun v6 => obind (aLoad false 1 v6 h) fun v7 => obind (aIndexAddr 1 y3 y4 h) fun v8 => obind (aStore 1 v8 v7 h) fun h9 => obind (aBin .add y4 (iv 1)) fun v10 => some (.normal, [y0, y1, y2, y3, v10, y5, y6, y7, y4, y0, v4, v5, y4, v10, y3, y4, y0, y4, v6, v7, v8, y21], h9)) (some (.exit 0, [y0, y1, y2, y3, y4, y5, y6, y7, y4, y0, v4, v5, .top, .top, .top, .top, .top, .top, .top, .top, .top, y21], h)) := by kernel_rfl
theorem e_lk0x0_laws_toInt64S (env : Nat → Contract) (z0 z1 z2 z3 z4 z5 z6 z7 z21 : AV) (h : Heap) : lk0_laws_toInt64S env (.exit 0) [z0, z1, z2, z3, z4, z5, z6, z7, .top, .top, .top, .top, .top, .top, .top, .top, .top, .top, .top, .top, .top, z21] h = some (z3, h) := by kernel_rfl
noncomputable abbrev c_slices_Equal_int64_int64 : Code := (Try.f35.body).getD .skip
noncomputable abbrev nm_slices_Equal_int64_int64 : List Bool := namedOf Try.f35
theorem hb_slices_Equal_int64_int64 : HasBody Try.prog n_slices_Equal_int64_int64 := ⟨Try.f35, _, Try.func35, rfl, by decide⟩
abbrev hm0_slices_Equal_int64_int64 : List Bool := [true, true, true, true, false, false, true, true, true, true, true, true, true, true, false, false, false, false, false, false, false, false, false, false, false, false]
abbrev xm0_slices_Equal_int64_int64 : List Bool := [true, true, true, true, true, true, true, true, true, true, true, true, true, false, false, false, false, false, false, false, false, false, false, false, false, false]
noncomputable def lb0_slices_Equal_int64_int64 (env : Nat → Contract) : TM → Heap → Option Res := fun tm h => denC Try.prog env nm_slices_Equal_int64_int64 (atrrlrll c_slices_Equal_int64_int64) Res tm h fun e tm h => some (e, tm, h)
noncomputable def lk0_slices_Equal_int64_int64 (env : Nat → Contract) : AX → TM → Heap → Option (AV × Heap) := (kBlock 0 (kSeq Try.prog env nm_slices_Equal_int64_int64 (atrrr c_slices_Equal_int64_int64) _ (kRet Try.prog Try.f35.results.toList)))
theorem e_slices_Equal_int64_int64 (env : Nat → Contract) (x0 x1 : AV) (h : Heap) : denFn Try.prog env n_slices_Equal_int64_int64 [x0, x1] h = obind (aLenK .slice x0) fun v1 => obind (aLenK .slice x1) fun v2 => obind (aCmp .neq .plain v1 v2) fun v3 => condB v3 (some ((bv false), h)) (obind (aLenK .slice x0) fun v4 => obind (loopP hm0_slices_Equal_int64_int64 xm0_slices_Equal_int64_int64 (lb0_slices_Equal_int64_int64 env) [x0, x1, und, und, .top, .top, x0, v1, x1, v2, v3, x0, v4, (iv 0), .top, .top, .top, .top, .top, .top, .top, .top, .top, .top, .top, .top] h) fun r => lk0_slices_Equal_int64_int64 env r.1 r.2.1 r.2.2) := by kernel_rfl
theorem e_lb0_slices_Equal_int64_int64 (env : Nat → Contract) (y0 y1 y2 y3 y6 y7 y8 y9 y10 y11 y12 y13 : AV) (h : Heap) : lb0_slices_Equal_int64_int64 env [y0, y1, y2, y3, .top, .top, y6, y7, y8, y9, y10, y11, y12, y13, .top, .top, .top, .top, .top, .top, .top, .top, .top, .top, .top, .top] h = obind (aBin .lss y13 y12) fun v5 => condB v5 (obind (aIndexAddr 1 y0 y13 h) fun v6 => obind (aLoad false 1 v6 h) fun v7 => obind (aIndexAddr 1 y1 y13 h) fun v8 => obind (aLoad false 1 v8 h) fun v9 => obind (aCmp .neq .plain v7 v9) fun v10 => condB v10 (some (.ret, [y0, y1, y2, y3, (bv false), y13, y6, y7, y8, y9, y10, y11, y12, y13, v5, y13, y0, y13, v6, v7, y1, y13, v8, v9, v10, .top], h)) (obind (aBin .add y13 (iv 1)) fun v11 => some (.normal, [y0, y1, y2, y3, .top, y13, y6, y7, y8, y9, y10, y11, y12, v11, v5, y13, y0, y13, v6, v7, y1, y13, v8, v9, v10, v11], h))) (some (.exit 0, [y0, y1, y2, y3, .top, .top, y6, y7, y8, y9, y10, y11, y12, y13, v5, .top, .top, .top, .top, .top, .top, .top, .top, .top, .top, .top], h)) := by kernel_rfl
theorem e_lk0x0_slices_Equal_int64_int64 (env : Nat → Contract) (z0 z1 z2 z3 z4 z5 z6 z7 z8 z9 z10 z11 z12 : AV) (h : Heap) : lk0_slices_Equal_int64_int64 env (.exit 0) [z0, z1, z2, z3, z4, z5, z6, z7, z8, z9, z10, z11, z12, .top, .top, .top, .top, .top, .top, .top, .top, .top, .top, .top, .top, .top] h = some ((bv true), h) := by kernel_rfl
theorem e_lk0r_slices_Equal_int64_int64 (env : Nat → Contract) (z0 z1 z2 z3 z4 z5 z6 z7 z8 z9 z10 z11 z12 : AV) (h : Heap) : lk0_slices_Equal_int64_int64 env .ret [z0, z1, z2, z3, z4, z5, z6, z7, z8, z9, z10, z11, z12, .top, .top, .top, .top, .top, .top, .top, .top, .top, .top, .top, .top, .top] h = some (z4, h) := by kernel_rfl
noncomputable abbrev c_laws_eqInt64S : Code := (Try.f36.body).getD .skip
noncomputable abbrev nm_laws_eqInt64S : List Bool := namedOf Try.f36
theorem hb_laws_eqInt64S : HasBody Try.prog n_laws_eqInt64S := ⟨Try.f36, _, Try.func36, rfl, by decide⟩
abbrev hm0_laws_eqInt64S : List Bool := [true, true, true, true, false, true, true, true, true, true, true, false, false, false, false, false, false, false, false, false, false, false, false, false, false, false]
abbrev xm0_laws_eqInt64S : List Bool := [true, true, true, true, true, true, true, true, true, true, true, false, false, false, false, false, false, false, false, false, false, false, false, false, false, false]
noncomputable def lb0_laws_eqInt64S (env : Nat → Contract) : TM → Heap → Option Res := fun tm h => denC Try.prog env nm_laws_eqInt64S (atrrlrll c_laws_eqInt64S) Res tm h fun e tm h => some (e, tm, h)
noncomputable def lk0_laws_eqInt64S (env : Nat → Contract) : AX → TM → Heap → Option (AV × Heap) := (kBlock 0 (kSeq Try.prog env nm_laws_eqInt64S (atrrr c_laws_eqInt64S) _ (kRet Try.prog Try.f36.results.toList)))
theorem e_laws_eqInt64S (env : Nat → Contract) (x0 x1 : AV) (h : Heap) : denFn Try.prog env n_laws_eqInt64S [x0, x1] h = obind (aLenK .slice x0) fun v1 => obind (aLenK .slice x1) fun v2 => obind (aCmp .neq .plain v1 v2) fun v3 => condB v3 (some ((bv false), h)) (obind (loopP hm0_laws_eqInt64S xm0_laws_eqInt64S (lb0_laws_eqInt64S env) [x0, x1, und, und, .top, (iv 0), x0, v1, x1, v2, v3, .top, .top, .top, .top, .top, .top, .top, .top, .top, .top, .top, .top, .top, .top, .top] h) fun r => lk0_laws_eqInt64S env r.1 r.2.1 r.2.2) := by kernel_rfl
theorem e_lb0_laws_eqInt64S (env : Nat → Contract) (y0 y1 y2 y3 y5 y6 y7 y8 y9 y10 : AV) (h : Heap) : lb0_laws_eqInt64S env [y0, y1, y2, y3, .top, y5, y6, y7, y8, y9, y10, .top, .top, .top, .top, .top, .top, .top, .top, .top, .top, .top, .top, .top, .top, .top] h = obind (aLenK .slice y0) fun v4 => obind (aBin .lss y5 v4) fun v5 => condB v5 (obind (aIndexAddr 1 y0 y5 h) fun v6 => obind (aLoad false 1 v6 h) fun v7 => obind (aIndexAddr 1 y1 y5 h) fun v8 => obind (aLoad false 1 v8 h) fun v9 => obind (aCmp .neq .plain v7 v9) fun v10 => condB v10 (some (.ret, [y0, y1, y2, y3, (bv false), y5, y6, y7, y8, y9, y10, y5, y0, v4, v5, .top, .top, y0, y5, v6, v7, y1, y5, v8, v9, v10], h)) (obind (aBin .add y5 (iv 1)) fun v11 => some (.normal, [y0, y1, y2, y3, .top, v11, y6, y7, y8, y9, y10, y5, y0, v4, v5, y5, v11, y0, y5, v6, v7, y1, y5, v8, v9, v10], h))) (some (.exit 0, [y0, y1, y2, y3, .top, y5, y6, y7, y8, y9, y10, y5, y0, v4, v5, .top, .top, .top, .top, .top, .top, .top, .top, .top, .top, .top], h)) := by kernel_rfl
theorem e_lk0x0_laws_eqInt64S (env : Nat → Contract) (z0 z1 z2 z3 z4 z5 z6 z7 z8 z9 z10 : AV) (h : Heap) : lk0_laws_eqInt64S env (.exit 0) [z0, z1, z2, z3, z4, z5, z6, z7, z8, z9, z10, .top, .top, .top, .top, .top, .top, .top, .top, .top, .top, .top, .top, .top, .top, .top] h = some ((bv true), h) := by kernel_rfl
theorem e_lk0r_laws_eqInt64S (env : Nat → Contract) (z0 z1 z2 z3 z4 z5 z6 z7 z8 z9 z10 : AV) (h : Heap) : lk0_laws_eqInt64S env .ret [z0, z1, z2, z3, z4, z5, z6, z7, z8, z9, z10, .top, .top, .top, .top, .top, .top, .top, .top, .top, .top, .top, .top, .top, .top, .top] h = some (z4, h) := by kernel_rfl
end Go.Proofs.Ytnimdpcfgfkdhab
