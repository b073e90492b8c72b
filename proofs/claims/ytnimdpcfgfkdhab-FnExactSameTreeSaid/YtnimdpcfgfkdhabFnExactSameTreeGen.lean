/-
  The runs of the functions of this seat, in open form. Printed by a program of mine (gen.py).
-/
import Derived.Test.YtnimdpcfgfkdhabProg
import Derived.Test.YtnimdpcfgfkdhabEngKit
namespace Go.Proofs.Ytnimdpcfgfkdhab
open Go Go.Eng

@[simp] abbrev n_laws_FnExactSameLine : Nat := 3
@[simp] abbrev n_laws_FnExactMakeFraction : Nat := 4
@[simp] abbrev n_laws_FnExactAddFractions : Nat := 5
@[simp] abbrev n_laws_FnExactTimesFractions : Nat := 6
@[simp] abbrev n_laws_FnExactSameTree : Nat := 7
@[simp] abbrev n_laws_FnExactSameSymbols : Nat := 8
@[simp] abbrev n_laws_szLine : Nat := 9
@[simp] abbrev n_spec_SameLine : Nat := 10
@[simp] abbrev n_laws_toLine : Nat := 11
@[simp] abbrev n_impl_SameLine : Nat := 12
@[simp] abbrev n_laws_eqLine : Nat := 13
@[simp] abbrev n_spec_MakeFraction : Nat := 14
@[simp] abbrev n_impl_MakeFraction : Nat := 15
@[simp] abbrev n_laws_eqFraction : Nat := 16
@[simp] abbrev n_spec_AddFractions : Nat := 17
@[simp] abbrev n_laws_toFraction : Nat := 18
@[simp] abbrev n_impl_AddFractions : Nat := 19
@[simp] abbrev n_spec_TimesFractions : Nat := 20
@[simp] abbrev n_impl_TimesFractions : Nat := 21
@[simp] abbrev n_laws_szTree : Nat := 22
@[simp] abbrev n_spec_SameTree : Nat := 23
@[simp] abbrev n_laws_toTree : Nat := 24
@[simp] abbrev n_impl_SameTree : Nat := 25
@[simp] abbrev n_laws_eqTree : Nat := 26
@[simp] abbrev n_laws_szSymbolS : Nat := 27
@[simp] abbrev n_spec_SameSymbols : Nat := 28
@[simp] abbrev n_laws_toSymbolS : Nat := 29
@[simp] abbrev n_impl_SameSymbols : Nat := 30
@[simp] abbrev n_laws_eqSymbolS : Nat := 31
@[simp] abbrev n_laws_szInt64S : Nat := 32
@[simp] abbrev n_spec_l00Same : Nat := 33
@[simp] abbrev n_laws_toInt64S : Nat := 34
@[simp] abbrev n_slices_Equal_int64_int64 : Nat := 35
@[simp] abbrev n_laws_eqInt64S : Nat := 36
@[simp] abbrev n_spec_l00In : Nat := 37
@[simp] abbrev n_spec_l22Code : Nat := 38
@[simp] abbrev n_spec_l22Make : Nat := 39
@[simp] abbrev n_impl_within : Nat := 40
@[simp] abbrev n_impl_reduced : Nat := 41
@[simp] abbrev n_spec_l22Ok : Nat := 42
@[simp] abbrev n_impl_ValidFraction : Nat := 43
@[simp] abbrev n_laws_szTreeNodeS : Nat := 44
@[simp] abbrev n_laws_toTreeNodeS : Nat := 45
@[simp] abbrev n_slices_Equal_impl_TreeNode_impl_TreeNode : Nat := 46
@[simp] abbrev n_laws_eqTreeNodeS : Nat := 47
@[simp] abbrev n_laws_szSymbol : Nat := 48
@[simp] abbrev n_laws_toSymbol : Nat := 49
@[simp] abbrev n_slices_Equal_impl_Symbol_impl_Symbol : Nat := 50
@[simp] abbrev n_laws_eqSymbol : Nat := 51
@[simp] abbrev n_spec_l22Gcd : Nat := 52
@[simp] abbrev n_spec_l05Size : Nat := 53
@[simp] abbrev n_impl_gcd : Nat := 54
@[simp] abbrev n_laws_toTreeNode : Nat := 55
@[simp] abbrev n_laws_eqTreeNode : Nat := 56
@[simp] abbrev n_laws_toBox : Nat := 57
@[simp] abbrev n_laws_eqBox : Nat := 58
@[simp] abbrev n_impl_abs : Nat := 59
theorem mixed : Try.prog.follows .mixedOrders = true := by kernel_rfl
abbrev atrrr (c : Code) : Code := (codeR (codeR (codeR c)))
abbrev atrrlrll (c : Code) : Code := (codeL (codeL (codeR (codeL (codeR (codeR c))))))
theorem hb_laws_FnExactSameTree : HasBody Try.prog n_laws_FnExactSameTree := ⟨Try.f7, _, Try.func7, rfl, by decide⟩
theorem e_laws_FnExactSameTree (env : Nat → Contract) (x0 x1 : AV) (h : Heap) : denFn Try.prog env n_laws_FnExactSameTree [x0, x1] h = obind2 (aBox (AV.cells x0) h) fun v1 h2 => obind2 (aBox (AV.cells x1) h2) fun v3 h4 => obind (aLoad true 1 v1 h4) fun v5 => obind2 (aCall (env n_laws_szTree) [v5, (iv 1048576)] h4) fun v6 h7 => obind (aBin .lss v6 (iv 0)) fun v8 => condB v8 (some ((bv true), h7)) (obind (aLoad true 1 v3 h7) fun v9 => obind2 (aCall (env n_laws_szTree) [v9, v6] h7) fun v10 h11 => obind (aBin .lss v10 (iv 0)) fun v12 => condB v12 (some ((bv true), h11)) (obind (aLoad true 1 v1 h11) fun v13 => obind2 (aCallQ (env n_laws_toTree) [v13] h11) fun v14 h15 => obind (aLoad true 1 v3 h15) fun v16 => obind2 (aCallQ (env n_laws_toTree) [v16] h15) fun v17 h18 => obind2 (aCallQ (env n_spec_SameTree) [v14, v17] h18) fun v19 h20 => obind (aLoad true 1 v1 h20) fun v21 => obind2 (aCall (env n_laws_toTree) [v21] h20) fun v22 h23 => obind2 (aBox [nilS] h23) fun v24 h25 => obind (aStore 1 v24 v22 h25) fun h26 => obind (aLoad true 1 v3 h26) fun v27 => obind2 (aCall (env n_laws_toTree) [v27] h26) fun v28 h29 => obind2 (aBox [nilS] h29) fun v30 h31 => obind (aStore 1 v30 v28 h31) fun h32 => obind (aLoad true 1 v24 h32) fun v33 => obind (aLoad true 1 v30 h32) fun v34 => obind2 (aCall (env n_impl_SameTree) [v33, v34] h32) fun v35 h36 => obind (aCmp .neq .bool v35 v19) fun v37 => condB v37 (some ((bv false), h36)) (obind (aLoad true 1 v24 h36) fun v38 => obind (aLoad true 1 v1 h36) fun v39 => obind2 (aCallQ (env n_laws_toTree) [v39] h36) fun v40 h41 => obind2 (aCallQ (env n_laws_eqTree) [v38, v40] h41) fun v42 h43 => obind (aUn .not v42) fun v44 => condB v44 (some ((bv false), h43)) (obind (aLoad true 1 v30 h43) fun v45 => obind (aLoad true 1 v3 h43) fun v46 => obind2 (aCallQ (env n_laws_toTree) [v46] h43) fun v47 h48 => obind2 (aCallQ (env n_laws_eqTree) [v45, v47] h48) fun v49 h50 => obind (aUn .not v49) fun v51 => condB v51 (some ((bv false), h50)) (some ((bv true), h50)))))) := by kernel_rfl
theorem hb_laws_szTree : HasBody Try.prog n_laws_szTree := ⟨Try.f22, _, Try.func22, rfl, by decide⟩
theorem e_laws_szTree (env : Nat → Contract) (x0 x1 : AV) (h : Heap) : denFn Try.prog env n_laws_szTree [x0, x1] h = obind2 (aBox (AV.cells x0) h) fun v1 h2 => obind (aFieldAddr 0 v1) fun v3 => obind (aLoad false 1 v3 h2) fun v4 => obind2 (aCall (env n_laws_szTreeNodeS) [v4, x1] h2) fun v5 h6 => obind (aBin .lss v5 (iv 0)) fun v7 => condB v7 (some ((iv (-1)), h6)) (some (v5, h6)) := by kernel_rfl
noncomputable abbrev c_spec_SameTree : Code := (Try.f23.body).getD .skip
noncomputable abbrev nm_spec_SameTree : List Bool := namedOf Try.f23
theorem hb_spec_SameTree : HasBody Try.prog n_spec_SameTree := ⟨Try.f23, _, Try.func23, rfl, by decide⟩
abbrev hm0_spec_SameTree : List Bool := [true, true, true, true, false, true, true, true, true, true, true, true, true, false, false, false, false, false, false, false, false, false, false, false, false, false, false, false, false, false, false]
abbrev xm0_spec_SameTree : List Bool := [true, true, true, true, true, true, true, true, true, true, true, true, true, false, false, false, false, false, false, false, false, false, false, false, false, false, false, false, false, false, false]
noncomputable def lb0_spec_SameTree (env : Nat → Contract) : TM → Heap → Option Res := fun tm h => denC Try.prog env nm_spec_SameTree (atrrlrll c_spec_SameTree) Res tm h fun e tm h => some (e, tm, h)
noncomputable def lk0_spec_SameTree (env : Nat → Contract) : AX → TM → Heap → Option (AV × Heap) := (kBlock 0 (kSeq Try.prog env nm_spec_SameTree (atrrr c_spec_SameTree) _ (kRet Try.prog Try.f23.results.toList)))
theorem e_spec_SameTree (env : Nat → Contract) (x0 x1 : AV) (h : Heap) : denFn Try.prog env n_spec_SameTree [x0, x1] h = obind2 (aBox (AV.cells x0) h) fun v1 h2 => obind2 (aBox (AV.cells x1) h2) fun v3 h4 => obind (aFieldAddr 0 v1) fun v5 => obind (aLoad false 1 v5 h4) fun v6 => obind (aLenK .slice v6) fun v7 => obind (aFieldAddr 0 v3) fun v8 => obind (aLoad false 1 v8 h4) fun v9 => obind (aLenK .slice v9) fun v10 => obind (aCmp .neq .plain v7 v10) fun v11 => condB v11 (some ((bv false), h4)) (obind (loopP hm0_spec_SameTree xm0_spec_SameTree (lb0_spec_SameTree env) [x0, x1, v1, v3, .top, (iv 0), v5, v6, v7, v8, v9, v10, v11, .top, .top, .top, .top, .top, .top, .top, .top, .top, .top, .top, .top, .top, .top, .top, .top, .top, .top] h4) fun r => lk0_spec_SameTree env r.1 r.2.1 r.2.2) := by kernel_rfl
theorem e_lb0_spec_SameTree (env : Nat → Contract) (y0 y1 y2 y3 y5 y6 y7 y8 y9 y10 y11 y12 : AV) (h : Heap) : lb0_spec_SameTree env [y0, y1, y2, y3, .top, y5, y6, y7, y8, y9, y10, y11, y12, .top, .top, .top, .top, .top, .top, .top, .top, .top, .top, .top, .top, .top, .top, .top, .top, .top, .top] h = obind (aFieldAddr 0 y2) fun v12 => obind (aLoad false 1 v12 h) fun v13 => obind (aLenK .slice v13) fun v14 => obind (aBin .lss y5 v14) fun v15 => condB v15 (obind (aFieldAddr 0 y2) fun v16 => obind (aLoad false 1 v16 h) fun v17 => obind (aIndexAddr 4 v17 y5 h) fun v18 => obind (aLoad true 4 v18 h) fun v19 => obind (aFieldAddr 0 y3) fun v20 => obind (aLoad false 1 v20 h) fun v21 => obind (aIndexAddr 4 v21 y5 h) fun v22 => obind (aLoad true 4 v22 h) fun v23 => obind (aCmp .neq (.agg [.int, .int, .int, .int]) v19 v23) fun v24 => condB v24 (some (.ret, [y0, y1, y2, y3, (bv false), y5, y6, y7, y8, y9, y10, y11, y12, y5, v12, v13, v14, v15, .top, .top, v16, v17, y5, v18, v19, v20, v21, y5, v22, v23, v24], h)) (obind (aBin .add y5 (iv 1)) fun v25 => some (.normal, [y0, y1, y2, y3, .top, v25, y6, y7, y8, y9, y10, y11, y12, y5, v12, v13, v14, v15, y5, v25, v16, v17, y5, v18, v19, v20, v21, y5, v22, v23, v24], h))) (some (.exit 0, [y0, y1, y2, y3, .top, y5, y6, y7, y8, y9, y10, y11, y12, y5, v12, v13, v14, v15, .top, .top, .top, .top, .top, .top, .top, .top, .top, .top, .top, .top, .top], h)) := by kernel_rfl
theorem e_lk0x0_spec_SameTree (env : Nat → Contract) (z0 z1 z2 z3 z4 z5 z6 z7 z8 z9 z10 z11 z12 : AV) (h : Heap) : lk0_spec_SameTree env (.exit 0) [z0, z1, z2, z3, z4, z5, z6, z7, z8, z9, z10, z11, z12, .top, .top, .top, .top, .top, .top, .top, .top, .top, .top, .top, .top, .top, .top, .top, .top, .top, .top] h = some ((bv true), h) := by kernel_rfl
theorem e_lk0r_spec_SameTree (env : Nat → Contract) (z0 z1 z2 z3 z4 z5 z6 z7 z8 z9 z10 z11 z12 : AV) (h : Heap) : lk0_spec_SameTree env .ret [z0, z1, z2, z3, z4, z5, z6, z7, z8, z9, z10, z11, z12, .top, .top, .top, .top, .top, .top, .top, .top, .top, .top, .top, .top, .top, .top, .top, .top, .top, .top] h = some (z4, h) := by kernel_rfl
theorem hb_laws_toTree : HasBody Try.prog n_laws_toTree := ⟨Try.f24, _, Try.func24, rfl, by decide⟩
theorem e_laws_toTree (env : Nat → Contract) (x0 : AV) (h : Heap) : denFn Try.prog env n_laws_toTree [x0] h = obind2 (aBox (AV.cells x0) h) fun v1 h2 => obind2 (aBox [nilS] h2) fun v3 h4 => obind2 (aBox [nilS] h4) fun v5 h6 => obind (aFieldAddr 0 v1) fun v7 => obind (aLoad false 1 v7 h6) fun v8 => obind2 (aCall (env n_laws_toTreeNodeS) [v8] h6) fun v9 h10 => obind (aFieldAddr 0 v5) fun v11 => obind (aStore 1 v11 v9 h10) fun h12 => obind (aLoad true 1 v5 h12) fun v13 => obind (aStore 1 v3 v13 h12) fun h14 => retL [.c true 1 v3] h14 := by kernel_rfl
theorem hb_impl_SameTree : HasBody Try.prog n_impl_SameTree := ⟨Try.f25, _, Try.func25, rfl, by decide⟩
theorem e_impl_SameTree (env : Nat → Contract) (x0 x1 : AV) (h : Heap) : denFn Try.prog env n_impl_SameTree [x0, x1] h = obind2 (aBox (AV.cells x0) h) fun v1 h2 => obind2 (aBox (AV.cells x1) h2) fun v3 h4 => obind (aFieldAddr 0 v1) fun v5 => obind (aLoad false 1 v5 h4) fun v6 => obind (aFieldAddr 0 v3) fun v7 => obind (aLoad false 1 v7 h4) fun v8 => obind2 (aCall (env n_slices_Equal_impl_TreeNode_impl_TreeNode) [v6, v8] h4) fun v9 h10 => some (v9, h10) := by kernel_rfl
theorem hb_laws_eqTree : HasBody Try.prog n_laws_eqTree := ⟨Try.f26, _, Try.func26, rfl, by decide⟩
theorem e_laws_eqTree (env : Nat → Contract) (x0 x1 : AV) (h : Heap) : denFn Try.prog env n_laws_eqTree [x0, x1] h = obind2 (aBox (AV.cells x0) h) fun v1 h2 => obind2 (aBox (AV.cells x1) h2) fun v3 h4 => obind (aFieldAddr 0 v1) fun v5 => obind (aLoad false 1 v5 h4) fun v6 => obind (aFieldAddr 0 v3) fun v7 => obind (aLoad false 1 v7 h4) fun v8 => obind2 (aCall (env n_laws_eqTreeNodeS) [v6, v8] h4) fun v9 h10 => obind (aUn .not v9) fun v11 => condB v11 (some ((bv false), h10)) (some ((bv true), h10)) := by kernel_rfl
theorem hb_laws_szTreeNodeS : HasBody Try.prog n_laws_szTreeNodeS := ⟨Try.f44, _, Try.func44, rfl, by decide⟩
theorem e_laws_szTreeNodeS (env : Nat → Contract) (x0 x1 : AV) (h : Heap) : denFn Try.prog env n_laws_szTreeNodeS [x0, x1] h = obind (aLenK .slice x0) fun v1 => obind (aBin .sub x1 v1) fun v2 => obind (aBin .lss v2 (iv 0)) fun v3 => condB v3 (some ((iv (-1)), h)) (some (v2, h)) := by kernel_rfl
noncomputable abbrev c_laws_toTreeNodeS : Code := (Try.f45.body).getD .skip
noncomputable abbrev nm_laws_toTreeNodeS : List Bool := namedOf Try.f45
theorem hb_laws_toTreeNodeS : HasBody Try.prog n_laws_toTreeNodeS := ⟨Try.f45, _, Try.func45, rfl, by decide⟩
abbrev hm0_laws_toTreeNodeS : List Bool := [true, true, true, true, true, true, true, true, false, false, false, false, false, false, false, false, false, false, false, false, false, false, true]
abbrev xm0_laws_toTreeNodeS : List Bool := [true, true, true, true, true, true, true, true, false, false, false, false, false, false, false, false, false, false, false, false, false, false, true]
noncomputable def lb0_laws_toTreeNodeS (env : Nat → Contract) : TM → Heap → Option Res := fun tm h => denC Try.prog env nm_laws_toTreeNodeS (atrrlrll c_laws_toTreeNodeS) Res tm h fun e tm h => some (e, tm, h)
noncomputable def lk0_laws_toTreeNodeS (env : Nat → Contract) : AX → TM → Heap → Option (AV × Heap) := (kBlock 0 (kSeq Try.prog env nm_laws_toTreeNodeS (atrrr c_laws_toTreeNodeS) _ (kRet Try.prog Try.f45.results.toList)))
theorem e_laws_toTreeNodeS (env : Nat → Contract) (x0 : AV) (h : Heap) : denFn Try.prog env n_laws_toTreeNodeS [x0] h = obind (aLenK .slice x0) fun v1 => obind2 (aMakeSlice [(iv 0), (iv 0), (iv 0), (iv 0)] 32 v1 v1 h) fun v2 h3 => obind (loopP hm0_laws_toTreeNodeS xm0_laws_toTreeNodeS (lb0_laws_toTreeNodeS env) [x0, und, nilS, v2, (iv 0), x0, v1, v2, .top, .top, .top, .top, .top, .top, .top, .top, .top, .top, .top, .top, .top, .top, und] h3) fun r => lk0_laws_toTreeNodeS env r.1 r.2.1 r.2.2 := by kernel_rfl
theorem e_lb0_laws_toTreeNodeS (env : Nat → Contract) (y0 y1 y2 y3 y4 y5 y6 y7 y22 : AV) (h : Heap) : lb0_laws_toTreeNodeS env [y0, y1, y2, y3, y4, y5, y6, y7, .top, .top, .top, .top, .top, .top, .top, .top, .top, .top, .top, .top, .top, .top, y22] h = obind (aLenK .slice y0) fun v4 => obind (aBin .lss y4 v4) fun v5 => condB v5 (obind (aIndexAddr 4 y0 y4 h) fun v6 => obind (aLoad true 4 v6 h) fun v7 => obind2 (aCall (env n_laws_toTreeNode) [v7] h) fun v8 h9 => obind (aIndexAddr 4 y3 y4 h9) fun v10 => obind (aStore 4 v10 v8 h9) fun h11 => obind (aBin .add y4 (iv 1)) fun v12 => some (.normal, [y0, y1, y2, y3, v12, y5, y6, y7, y4, y0, v4, v5, y4, v12, y3, y4, y0, y4, v6, v7, v8, v10, y22], h11)) (some (.exit 0, [y0, y1, y2, y3, y4, y5, y6, y7, y4, y0, v4, v5, .top, .top, .top, .top, .top, .top, .top, .top, .top, .top, y22], h)) := by kernel_rfl
theorem e_lk0x0_laws_toTreeNodeS (env : Nat → Contract) (z0 z1 z2 z3 z4 z5 z6 z7 z22 : AV) (h : Heap) : lk0_laws_toTreeNodeS env (.exit 0) [z0, z1, z2, z3, z4, z5, z6, z7, .top, .top, .top, .top, .top, .top, .top, .top, .top, .top, .top, .top, .top, .top, z22] h = some (z3, h) := by kernel_rfl
noncomputable abbrev c_slices_Equal_impl_TreeNode_impl_TreeNode : Code := (Try.f46.body).getD .skip
noncomputable abbrev nm_slices_Equal_impl_TreeNode_impl_TreeNode : List Bool := namedOf Try.f46
theorem hb_slices_Equal_impl_TreeNode_impl_TreeNode : HasBody Try.prog n_slices_Equal_impl_TreeNode_impl_TreeNode := ⟨Try.f46, _, Try.func46, rfl, by decide⟩
abbrev hm0_slices_Equal_impl_TreeNode_impl_TreeNode : List Bool := [true, true, true, true, false, false, true, true, true, true, true, true, true, true, false, false, false, false, false, false, false, false, false, false, false, false]
abbrev xm0_slices_Equal_impl_TreeNode_impl_TreeNode : List Bool := [true, true, true, true, true, true, true, true, true, true, true, true, true, false, false, false, false, false, false, false, false, false, false, false, false, false]
noncomputable def lb0_slices_Equal_impl_TreeNode_impl_TreeNode (env : Nat → Contract) : TM → Heap → Option Res := fun tm h => denC Try.prog env nm_slices_Equal_impl_TreeNode_impl_TreeNode (atrrlrll c_slices_Equal_impl_TreeNode_impl_TreeNode) Res tm h fun e tm h => some (e, tm, h)
noncomputable def lk0_slices_Equal_impl_TreeNode_impl_TreeNode (env : Nat → Contract) : AX → TM → Heap → Option (AV × Heap) := (kBlock 0 (kSeq Try.prog env nm_slices_Equal_impl_TreeNode_impl_TreeNode (atrrr c_slices_Equal_impl_TreeNode_impl_TreeNode) _ (kRet Try.prog Try.f46.results.toList)))
theorem e_slices_Equal_impl_TreeNode_impl_TreeNode (env : Nat → Contract) (x0 x1 : AV) (h : Heap) : denFn Try.prog env n_slices_Equal_impl_TreeNode_impl_TreeNode [x0, x1] h = obind (aLenK .slice x0) fun v1 => obind (aLenK .slice x1) fun v2 => obind (aCmp .neq .plain v1 v2) fun v3 => condB v3 (some ((bv false), h)) (obind (aLenK .slice x0) fun v4 => obind (loopP hm0_slices_Equal_impl_TreeNode_impl_TreeNode xm0_slices_Equal_impl_TreeNode_impl_TreeNode (lb0_slices_Equal_impl_TreeNode_impl_TreeNode env) [x0, x1, und, und, .top, .top, x0, v1, x1, v2, v3, x0, v4, (iv 0), .top, .top, .top, .top, .top, .top, .top, .top, .top, .top, .top, .top] h) fun r => lk0_slices_Equal_impl_TreeNode_impl_TreeNode env r.1 r.2.1 r.2.2) := by kernel_rfl
theorem e_lb0_slices_Equal_impl_TreeNode_impl_TreeNode (env : Nat → Contract) (y0 y1 y2 y3 y6 y7 y8 y9 y10 y11 y12 y13 : AV) (h : Heap) : lb0_slices_Equal_impl_TreeNode_impl_TreeNode env [y0, y1, y2, y3, .top, .top, y6, y7, y8, y9, y10, y11, y12, y13, .top, .top, .top, .top, .top, .top, .top, .top, .top, .top, .top, .top] h = obind (aBin .lss y13 y12) fun v5 => condB v5 (obind (aIndexAddr 4 y0 y13 h) fun v6 => obind (aLoad true 4 v6 h) fun v7 => obind (aIndexAddr 4 y1 y13 h) fun v8 => obind (aLoad true 4 v8 h) fun v9 => obind (aCmp .neq (.agg [.int, .int, .int, .int]) v7 v9) fun v10 => condB v10 (some (.ret, [y0, y1, y2, y3, (bv false), y13, y6, y7, y8, y9, y10, y11, y12, y13, v5, y13, y0, y13, v6, v7, y1, y13, v8, v9, v10, .top], h)) (obind (aBin .add y13 (iv 1)) fun v11 => some (.normal, [y0, y1, y2, y3, .top, y13, y6, y7, y8, y9, y10, y11, y12, v11, v5, y13, y0, y13, v6, v7, y1, y13, v8, v9, v10, v11], h))) (some (.exit 0, [y0, y1, y2, y3, .top, .top, y6, y7, y8, y9, y10, y11, y12, y13, v5, .top, .top, .top, .top, .top, .top, .top, .top, .top, .top, .top], h)) := by kernel_rfl
theorem e_lk0x0_slices_Equal_impl_TreeNode_impl_TreeNode (env : Nat → Contract) (z0 z1 z2 z3 z4 z5 z6 z7 z8 z9 z10 z11 z12 : AV) (h : Heap) : lk0_slices_Equal_impl_TreeNode_impl_TreeNode env (.exit 0) [z0, z1, z2, z3, z4, z5, z6, z7, z8, z9, z10, z11, z12, .top, .top, .top, .top, .top, .top, .top, .top, .top, .top, .top, .top, .top] h = some ((bv true), h) := by kernel_rfl
theorem e_lk0r_slices_Equal_impl_TreeNode_impl_TreeNode (env : Nat → Contract) (z0 z1 z2 z3 z4 z5 z6 z7 z8 z9 z10 z11 z12 : AV) (h : Heap) : lk0_slices_Equal_impl_TreeNode_impl_TreeNode env .ret [z0, z1, z2, z3, z4, z5, z6, z7, z8, z9, z10, z11, z12, .top, .top, .top, .top, .top, .top, .top, .top, .top, .top, .top, .top, .top] h = some (z4, h) := by kernel_rfl
noncomputable abbrev c_laws_eqTreeNodeS : Code := (Try.f47.body).getD .skip
noncomputable abbrev nm_laws_eqTreeNodeS : List Bool := namedOf Try.f47
theorem hb_laws_eqTreeNodeS : HasBody Try.prog n_laws_eqTreeNodeS := ⟨Try.f47, _, Try.func47, rfl, by decide⟩
abbrev hm0_laws_eqTreeNodeS : List Bool := [true, true, true, true, false, true, true, true, true, true, true, false, false, false, false, false, false, false, false, false, false, false, false, false, false, false, false]
abbrev xm0_laws_eqTreeNodeS : List Bool := [true, true, true, true, true, true, true, true, true, true, true, false, false, false, false, false, false, false, false, false, false, false, false, false, false, false, false]
noncomputable def lb0_laws_eqTreeNodeS (env : Nat → Contract) : TM → Heap → Option Res := fun tm h => denC Try.prog env nm_laws_eqTreeNodeS (atrrlrll c_laws_eqTreeNodeS) Res tm h fun e tm h => some (e, tm, h)
noncomputable def lk0_laws_eqTreeNodeS (env : Nat → Contract) : AX → TM → Heap → Option (AV × Heap) := (kBlock 0 (kSeq Try.prog env nm_laws_eqTreeNodeS (atrrr c_laws_eqTreeNodeS) _ (kRet Try.prog Try.f47.results.toList)))
theorem e_laws_eqTreeNodeS (env : Nat → Contract) (x0 x1 : AV) (h : Heap) : denFn Try.prog env n_laws_eqTreeNodeS [x0, x1] h = obind (aLenK .slice x0) fun v1 => obind (aLenK .slice x1) fun v2 => obind (aCmp .neq .plain v1 v2) fun v3 => condB v3 (some ((bv false), h)) (obind (loopP hm0_laws_eqTreeNodeS xm0_laws_eqTreeNodeS (lb0_laws_eqTreeNodeS env) [x0, x1, und, und, .top, (iv 0), x0, v1, x1, v2, v3, .top, .top, .top, .top, .top, .top, .top, .top, .top, .top, .top, .top, .top, .top, .top, .top] h) fun r => lk0_laws_eqTreeNodeS env r.1 r.2.1 r.2.2) := by kernel_rfl
theorem e_lb0_laws_eqTreeNodeS (env : Nat → Contract) (y0 y1 y2 y3 y5 y6 y7 y8 y9 y10 : AV) (h : Heap) : lb0_laws_eqTreeNodeS env [y0, y1, y2, y3, .top, y5, y6, y7, y8, y9, y10, .top, .top, .top, .top, .top, .top, .top, .top, .top, .top, .top, .top, .top, .top, .top, .top] h = obind (aLenK .slice y0) fun v4 => obind (aBin .lss y5 v4) fun v5 => condB v5 (obind (aIndexAddr 4 y0 y5 h) fun v6 => obind (aLoad true 4 v6 h) fun v7 => obind (aIndexAddr 4 y1 y5 h) fun v8 => obind (aLoad true 4 v8 h) fun v9 => obind2 (aCallQ (env n_laws_eqTreeNode) [v7, v9] h) fun v10 h11 => obind (aUn .not v10) fun v12 => condB v12 (some (.ret, [y0, y1, y2, y3, (bv false), y5, y6, y7, y8, y9, y10, y5, y0, v4, v5, .top, .top, y0, y5, v6, v7, y1, y5, v8, v9, v10, v12], h11)) (obind (aBin .add y5 (iv 1)) fun v13 => some (.normal, [y0, y1, y2, y3, .top, v13, y6, y7, y8, y9, y10, y5, y0, v4, v5, y5, v13, y0, y5, v6, v7, y1, y5, v8, v9, v10, v12], h11))) (some (.exit 0, [y0, y1, y2, y3, .top, y5, y6, y7, y8, y9, y10, y5, y0, v4, v5, .top, .top, .top, .top, .top, .top, .top, .top, .top, .top, .top, .top], h)) := by kernel_rfl
theorem e_lk0x0_laws_eqTreeNodeS (env : Nat → Contract) (z0 z1 z2 z3 z4 z5 z6 z7 z8 z9 z10 : AV) (h : Heap) : lk0_laws_eqTreeNodeS env (.exit 0) [z0, z1, z2, z3, z4, z5, z6, z7, z8, z9, z10, .top, .top, .top, .top, .top, .top, .top, .top, .top, .top, .top, .top, .top, .top, .top, .top] h = some ((bv true), h) := by kernel_rfl
theorem e_lk0r_laws_eqTreeNodeS (env : Nat → Contract) (z0 z1 z2 z3 z4 z5 z6 z7 z8 z9 z10 : AV) (h : Heap) : lk0_laws_eqTreeNodeS env .ret [z0, z1, z2, z3, z4, z5, z6, z7, z8, z9, z10, .top, .top, .top, .top, .top, .top, .top, .top, .top, .top, .top, .top, .top, .top, .top, .top] h = some (z4, h) := by kernel_rfl
theorem hb_laws_toTreeNode : HasBody Try.prog n_laws_toTreeNode := ⟨Try.f55, _, Try.func55, rfl, by decide⟩
theorem e_laws_toTreeNode (env : Nat → Contract) (x0 : AV) (h : Heap) : denFn Try.prog env n_laws_toTreeNode [x0] h = obind2 (aBox (AV.cells x0) h) fun v1 h2 => obind2 (aBox [(iv 0), (iv 0), (iv 0), (iv 0)] h2) fun v3 h4 => obind2 (aBox [(iv 0), (iv 0), (iv 0), (iv 0)] h4) fun v5 h6 => obind (aFieldAddr 0 v1) fun v7 => obind (aLoad false 1 v7 h6) fun v8 => obind (aFieldAddr 0 v5) fun v9 => obind (aStore 1 v9 v8 h6) fun h10 => obind (aFieldAddr 1 v1) fun v11 => obind (aLoad false 1 v11 h10) fun v12 => obind (aFieldAddr 1 v5) fun v13 => obind (aStore 1 v13 v12 h10) fun h14 => obind (aFieldAddr 2 v1) fun v15 => obind (aLoad false 1 v15 h14) fun v16 => obind (aFieldAddr 2 v5) fun v17 => obind (aStore 1 v17 v16 h14) fun h18 => obind (aFieldAddr 3 v1) fun v19 => obind (aLoad false 1 v19 h18) fun v20 => obind (aFieldAddr 3 v5) fun v21 => obind (aStore 1 v21 v20 h18) fun h22 => obind (aLoad true 4 v5 h22) fun v23 => obind (aStore 4 v3 v23 h22) fun h24 => retL [.c true 4 v3] h24 := by kernel_rfl
theorem hb_laws_eqTreeNode : HasBody Try.prog n_laws_eqTreeNode := ⟨Try.f56, _, Try.func56, rfl, by decide⟩
theorem e_laws_eqTreeNode (env : Nat → Contract) (x0 x1 : AV) (h : Heap) : denFn Try.prog env n_laws_eqTreeNode [x0, x1] h = obind2 (aBox (AV.cells x0) h) fun v1 h2 => obind2 (aBox (AV.cells x1) h2) fun v3 h4 => obind (aFieldAddr 0 v1) fun v5 => obind (aLoad false 1 v5 h4) fun v6 => obind (aFieldAddr 0 v3) fun v7 => obind (aLoad false 1 v7 h4) fun v8 => obind (aCmp .neq .plain v6 v8) fun v9 => condB v9 (some ((bv false), h4)) (obind (aFieldAddr 1 v1) fun v10 => obind (aLoad false 1 v10 h4) fun v11 => obind (aFieldAddr 1 v3) fun v12 => obind (aLoad false 1 v12 h4) fun v13 => obind (aCmp .neq .plain v11 v13) fun v14 => condB v14 (some ((bv false), h4)) (obind (aFieldAddr 2 v1) fun v15 => obind (aLoad false 1 v15 h4) fun v16 => obind (aFieldAddr 2 v3) fun v17 => obind (aLoad false 1 v17 h4) fun v18 => obind (aCmp .neq .plain v16 v18) fun v19 => condB v19 (some ((bv false), h4)) (obind (aFieldAddr 3 v1) fun v20 => obind (aLoad false 1 v20 h4) fun v21 => obind (aFieldAddr 3 v3) fun v22 => obind (aLoad false 1 v22 h4) fun v23 => obind (aCmp .neq .plain v21 v23) fun v24 => condB v24 (some ((bv false), h4)) (some ((bv true), h4))))) := by kernel_rfl
end Go.Proofs.Ytnimdpcfgfkdhab
