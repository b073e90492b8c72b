/-
  The runs of the functions of this seat, in open form. Printed by a program of mine (gen.py).
-/
import Derived.Test.YtnimdpcfgfkdhabProg
import Derived.Test.YtnimdpcfgfkdhabEngKit
namespace Go.Proofs.Ytnimdpcfgfkdhab
open Go Go.Eng

@[simp] abbrev n_laws_FnExactSameLine : Nat := 3
@[simp] abbrev n_laws_FnExactMakeFraction : Nat := 4
@[simp] abbrev n_laws_FnExactAddFractions : Nat := 5
@[simp] abbrev n_laws_FnExactTimesFractions : Nat := 6
@[simp] abbrev n_laws_FnExactSameTree : Nat := 7
@[simp] abbrev n_laws_FnExactSameSymbols : Nat := 8
@[simp] abbrev n_laws_szLine : Nat := 9
@[simp] abbrev n_spec_SameLine : Nat := 10
@[simp] abbrev n_laws_toLine : Nat := 11
@[simp] abbrev n_impl_SameLine : Nat := 12
@[simp] abbrev n_laws_eqLine : Nat := 13
@[simp] abbrev n_spec_MakeFraction : Nat := 14
@[simp] abbrev n_impl_MakeFraction : Nat := 15
@[simp] abbrev n_laws_eqFraction : Nat := 16
@[simp] abbrev n_spec_AddFractions : Nat := 17
@[simp] abbrev n_laws_toFraction : Nat := 18
@[simp] abbrev n_impl_AddFractions : Nat := 19
@[simp] abbrev n_spec_TimesFractions : Nat := 20
@[simp] abbrev n_impl_TimesFractions : Nat := 21
@[simp] abbrev n_laws_szTree : Nat := 22
@[simp] abbrev n_spec_SameTree : Nat := 23
@[simp] abbrev n_laws_toTree : Nat := 24
@[simp] abbrev n_impl_SameTree : Nat := 25
@[simp] abbrev n_laws_eqTree : Nat := 26
@[simp] abbrev n_laws_szSymbolS : Nat := 27
@[simp] abbrev n_spec_SameSymbols : Nat := 28
@[simp] abbrev n_laws_toSymbolS : Nat := 29
@[simp] abbrev n_impl_SameSymbols : Nat := 30
@[simp] abbrev n_laws_eqSymbolS : Nat := 31
@[simp] abbrev n_laws_szInt64S : Nat := 32
@[simp] abbrev n_spec_l00Same : Nat := 33
@[simp] abbrev n_laws_toInt64S : Nat := 34
@[simp] abbrev n_slices_Equal_int64_int64 : Nat := 35
@[simp] abbrev n_laws_eqInt64S : Nat := 36
@[simp] abbrev n_spec_l00In : Nat := 37
@[simp] abbrev n_spec_l22Code : Nat := 38
@[simp] abbrev n_spec_l22Make : Nat := 39
@[simp] abbrev n_impl_within : Nat := 40
@[simp] abbrev n_impl_reduced : Nat := 41
@[simp] abbrev n_spec_l22Ok : Nat := 42
@[simp] abbrev n_impl_ValidFraction : Nat := 43
@[simp] abbrev n_laws_szTreeNodeS : Nat := 44
@[simp] abbrev n_laws_toTreeNodeS : Nat := 45
@[simp] abbrev n_slices_Equal_impl_TreeNode_impl_TreeNode : Nat := 46
@[simp] abbrev n_laws_eqTreeNodeS : Nat := 47
@[simp] abbrev n_laws_szSymbol : Nat := 48
@[simp] abbrev n_laws_toSymbol : Nat := 49
@[simp] abbrev n_slices_Equal_impl_Symbol_impl_Symbol : Nat := 50
@[simp] abbrev n_laws_eqSymbol : Nat := 51
@[simp] abbrev n_spec_l22Gcd : Nat := 52
@[simp] abbrev n_spec_l05Size : Nat := 53
@[simp] abbrev n_impl_gcd : Nat := 54
@[simp] abbrev n_laws_toTreeNode : Nat := 55
@[simp] abbrev n_laws_eqTreeNode : Nat := 56
@[simp] abbrev n_laws_toBox : Nat := 57
@[simp] abbrev n_laws_eqBox : Nat := 58
@[simp] abbrev n_impl_abs : Nat := 59
theorem mixed : Try.prog.follows .mixedOrders = true := by kernel_rfl
abbrev atrrr (c : Code) : Code := (codeR (codeR (codeR c)))
abbrev atrrrr (c : Code) : Code := (codeR (codeR (codeR (codeR c))))
abbrev atrrlrll (c : Code) : Code := (codeL (codeL (codeR (codeL (codeR (codeR c))))))
abbrev atrrrlrll (c : Code) : Code := (codeL (codeL (codeR (codeL (codeR (codeR (codeR c)))))))
theorem hb_laws_FnExactSameSymbols : HasBody Try.prog n_laws_FnExactSameSymbols := ⟨Try.f8, _, Try.func8, rfl, by decide⟩
theorem e_laws_FnExactSameSymbols (env : Nat → Contract) (x0 x1 : AV) (h : Heap) : denFn Try.prog env n_laws_FnExactSameSymbols [x0, x1] h = obind2 (aCall (env n_laws_szSymbolS) [x0, (iv 1048576)] h) fun v1 h2 => obind (aBin .lss v1 (iv 0)) fun v3 => condB v3 (some ((bv true), h2)) (obind2 (aCall (env n_laws_szSymbolS) [x1, v1] h2) fun v4 h5 => obind (aBin .lss v4 (iv 0)) fun v6 => condB v6 (some ((bv true), h5)) (obind2 (aCall (env n_laws_toSymbolS) [x0] h5) fun v7 h8 => obind2 (aCall (env n_laws_toSymbolS) [x1] h8) fun v9 h10 => obind2 (aCall (env n_spec_SameSymbols) [v7, v9] h10) fun v11 h12 => obind2 (aCall (env n_laws_toSymbolS) [x0] h12) fun v13 h14 => obind2 (aCall (env n_laws_toSymbolS) [x1] h14) fun v15 h16 => obind2 (aCall (env n_impl_SameSymbols) [v13, v15] h16) fun v17 h18 => obind (aCmp .neq .bool v17 v11) fun v19 => condB v19 (some ((bv false), h18)) (obind2 (aCall (env n_laws_toSymbolS) [x0] h18) fun v20 h21 => obind2 (aCall (env n_laws_eqSymbolS) [v13, v20] h21) fun v22 h23 => obind (aUn .not v22) fun v24 => condB v24 (some ((bv false), h23)) (obind2 (aCall (env n_laws_toSymbolS) [x1] h23) fun v25 h26 => obind2 (aCall (env n_laws_eqSymbolS) [v15, v25] h26) fun v27 h28 => obind (aUn .not v27) fun v29 => condB v29 (some ((bv false), h28)) (some ((bv true), h28)))))) := by kernel_rfl
noncomputable abbrev c_laws_szSymbolS : Code := (Try.f27.body).getD .skip
noncomputable abbrev nm_laws_szSymbolS : List Bool := namedOf Try.f27
theorem hb_laws_szSymbolS : HasBody Try.prog n_laws_szSymbolS := ⟨Try.f27, _, Try.func27, rfl, by decide⟩
abbrev hm0_laws_szSymbolS : List Bool := [true, true, true, true, false, true, true, true, true, true, true, true, false, false, false, false, false, false, false, false, false, false, false, false, false, false, true]
abbrev xm0_laws_szSymbolS : List Bool := [true, true, true, true, true, true, true, true, true, true, true, true, false, false, false, false, false, false, false, false, false, false, false, false, false, false, true]
noncomputable def lb0_laws_szSymbolS (env : Nat → Contract) : TM → Heap → Option Res := fun tm h => denC Try.prog env nm_laws_szSymbolS (atrrrlrll c_laws_szSymbolS) Res tm h fun e tm h => some (e, tm, h)
noncomputable def lk0_laws_szSymbolS (env : Nat → Contract) : AX → TM → Heap → Option (AV × Heap) := (kBlock 0 (kSeq Try.prog env nm_laws_szSymbolS (atrrrr c_laws_szSymbolS) _ (kRet Try.prog Try.f27.results.toList)))
theorem e_laws_szSymbolS (env : Nat → Contract) (x0 x1 : AV) (h : Heap) : denFn Try.prog env n_laws_szSymbolS [x0, x1] h = obind (aLenK .slice x0) fun v1 => obind (aBin .sub x1 v1) fun v2 => obind (aBin .lss v2 (iv 0)) fun v3 => condB v3 (some ((iv (-1)), h)) (obind (loopP hm0_laws_szSymbolS xm0_laws_szSymbolS (lb0_laws_szSymbolS env) [x0, v2, und, und, .top, (iv 0), x1, x0, v1, v2, v2, v3, .top, .top, .top, .top, .top, .top, .top, .top, .top, .top, .top, .top, .top, .top, und] h) fun r => lk0_laws_szSymbolS env r.1 r.2.1 r.2.2) := by kernel_rfl
theorem e_lb0_laws_szSymbolS (env : Nat → Contract) (y0 y1 y2 y3 y5 y6 y7 y8 y9 y10 y11 y26 : AV) (h : Heap) : lb0_laws_szSymbolS env [y0, y1, y2, y3, .top, y5, y6, y7, y8, y9, y10, y11, .top, .top, .top, .top, .top, .top, .top, .top, .top, .top, .top, .top, .top, .top, y26] h = obind (aLenK .slice y0) fun v4 => obind (aBin .lss y5 v4) fun v5 => condB v5 (obind (aIndexAddr 5 y0 y5 h) fun v6 => obind (aLoad true 5 v6 h) fun v7 => obind2 (aCall (env n_laws_szSymbol) [v7, y1] h) fun v8 h9 => obind (aBin .lss v8 (iv 0)) fun v10 => condB v10 (some (.ret, [y0, v8, y2, y3, (iv (-1)), y5, y6, y7, y8, y9, y10, y11, y5, y0, v4, v5, .top, .top, y0, y5, v6, v7, y1, v8, v8, v10, y26], h9)) (obind (aBin .add y5 (iv 1)) fun v11 => some (.normal, [y0, v8, y2, y3, .top, v11, y6, y7, y8, y9, y10, y11, y5, y0, v4, v5, y5, v11, y0, y5, v6, v7, y1, v8, v8, v10, y26], h9))) (some (.exit 0, [y0, y1, y2, y3, .top, y5, y6, y7, y8, y9, y10, y11, y5, y0, v4, v5, .top, .top, .top, .top, .top, .top, .top, .top, .top, .top, y26], h)) := by kernel_rfl
theorem e_lk0x0_laws_szSymbolS (env : Nat → Contract) (z0 z1 z2 z3 z4 z5 z6 z7 z8 z9 z10 z11 z26 : AV) (h : Heap) : lk0_laws_szSymbolS env (.exit 0) [z0, z1, z2, z3, z4, z5, z6, z7, z8, z9, z10, z11, .top, .top, .top, .top, .top, .top, .top, .top, .top, .top, .top, .top, .top, .top, z26] h = some (z1, h) := by kernel_rfl
theorem e_lk0r_laws_szSymbolS (env : Nat → Contract) (z0 z1 z2 z3 z4 z5 z6 z7 z8 z9 z10 z11 z26 : AV) (h : Heap) : lk0_laws_szSymbolS env .ret [z0, z1, z2, z3, z4, z5, z6, z7, z8, z9, z10, z11, .top, .top, .top, .top, .top, .top, .top, .top, .top, .top, .top, .top, .top, .top, z26] h = some (z4, h) := by kernel_rfl
noncomputable abbrev c_spec_SameSymbols : Code := (Try.f28.body).getD .skip
noncomputable abbrev nm_spec_SameSymbols : List Bool := namedOf Try.f28
theorem hb_spec_SameSymbols : HasBody Try.prog n_spec_SameSymbols := ⟨Try.f28, _, Try.func28, rfl, by decide⟩
abbrev hm0_spec_SameSymbols : List Bool := [true, true, true, true, false, true, true, true, true, true, true, false, false, false, false, false, false, false, false, false, false, false, false, false, false, false]
abbrev xm0_spec_SameSymbols : List Bool := [true, true, true, true, true, true, true, true, true, true, true, false, false, false, false, false, false, false, false, false, false, false, false, false, false, false]
noncomputable def lb0_spec_SameSymbols (env : Nat → Contract) : TM → Heap → Option Res := fun tm h => denC Try.prog env nm_spec_SameSymbols (atrrlrll c_spec_SameSymbols) Res tm h fun e tm h => some (e, tm, h)
noncomputable def lk0_spec_SameSymbols (env : Nat → Contract) : AX → TM → Heap → Option (AV × Heap) := (kBlock 0 (kSeq Try.prog env nm_spec_SameSymbols (atrrr c_spec_SameSymbols) _ (kRet Try.prog Try.f28.results.toList)))
theorem e_spec_SameSymbols (env : Nat → Contract) (x0 x1 : AV) (h : Heap) : denFn Try.prog env n_spec_SameSymbols [x0, x1] h = obind (aLenK .slice x0) fun v1 => obind (aLenK .slice x1) fun v2 => obind (aCmp .neq .plain v1 v2) fun v3 => condB v3 (some ((bv false), h)) (obind (loopP hm0_spec_SameSymbols xm0_spec_SameSymbols (lb0_spec_SameSymbols env) [x0, x1, und, und, .top, (iv 0), x0, v1, x1, v2, v3, .top, .top, .top, .top, .top, .top, .top, .top, .top, .top, .top, .top, .top, .top, .top] h) fun r => lk0_spec_SameSymbols env r.1 r.2.1 r.2.2) := by kernel_rfl
theorem e_lb0_spec_SameSymbols (env : Nat → Contract) (y0 y1 y2 y3 y5 y6 y7 y8 y9 y10 : AV) (h : Heap) : lb0_spec_SameSymbols env [y0, y1, y2, y3, .top, y5, y6, y7, y8, y9, y10, .top, .top, .top, .top, .top, .top, .top, .top, .top, .top, .top, .top, .top, .top, .top] h = obind (aLenK .slice y0) fun v4 => obind (aBin .lss y5 v4) fun v5 => condB v5 (obind (aIndexAddr 5 y0 y5 h) fun v6 => obind (aLoad true 5 v6 h) fun v7 => obind (aIndexAddr 5 y1 y5 h) fun v8 => obind (aLoad true 5 v8 h) fun v9 => obind (aCmp .neq (.agg [.str, .int, .int, .int, .int]) v7 v9) fun v10 => condB v10 (some (.ret, [y0, y1, y2, y3, (bv false), y5, y6, y7, y8, y9, y10, y5, y0, v4, v5, .top, .top, y0, y5, v6, v7, y1, y5, v8, v9, v10], h)) (obind (aBin .add y5 (iv 1)) fun v11 => some (.normal, [y0, y1, y2, y3, .top, v11, y6, y7, y8, y9, y10, y5, y0, v4, v5, y5, v11, y0, y5, v6, v7, y1, y5, v8, v9, v10], h))) (some (.exit 0, [y0, y1, y2, y3, .top, y5, y6, y7, y8, y9, y10, y5, y0, v4, v5, .top, .top, .top, .top, .top, .top, .top, .top, .top, .top, .top], h)) := by kernel_rfl
theorem e_lk0x0_spec_SameSymbols (env : Nat → Contract) (z0 z1 z2 z3 z4 z5 z6 z7 z8 z9 z10 : AV) (h : Heap) : lk0_spec_SameSymbols env (.exit 0) [z0, z1, z2, z3, z4, z5, z6, z7, z8, z9, z10, .top, .top, .top, .top, .top, .top, .top, .top, .top, .top, .top, .top, .top, .top, .top] h = some ((bv true), h) := by kernel_rfl
theorem e_lk0r_spec_SameSymbols (env : Nat → Contract) (z0 z1 z2 z3 z4 z5 z6 z7 z8 z9 z10 : AV) (h : Heap) : lk0_spec_SameSymbols env .ret [z0, z1, z2, z3, z4, z5, z6, z7, z8, z9, z10, .top, .top, .top, .top, .top, .top, .top, .top, .top, .top, .top, .top, .top, .top, .top] h = some (z4, h) := by kernel_rfl
noncomputable abbrev c_laws_toSymbolS : Code := (Try.f29.body).getD .skip
noncomputable abbrev nm_laws_toSymbolS : List Bool := namedOf Try.f29
theorem hb_laws_toSymbolS : HasBody Try.prog n_laws_toSymbolS := ⟨Try.f29, _, Try.func29, rfl, by decide⟩
abbrev hm0_laws_toSymbolS : List Bool := [true, true, true, true, true, true, true, true, false, false, false, false, false, false, false, false, false, false, false, false, false, false, true]
abbrev xm0_laws_toSymbolS : List Bool := [true, true, true, true, true, true, true, true, false, false, false, false, false, false, false, false, false, false, false, false, false, false, true]
noncomputable def lb0_laws_toSymbolS (env : Nat → Contract) : TM → Heap → Option Res := fun tm h => denC Try.prog env nm_laws_toSymbolS (atrrlrll c_laws_toSymbolS) Res tm h fun e tm h => some (e, tm, h)
noncomputable def lk0_laws_toSymbolS (env : Nat → Contract) : AX → TM → Heap → Option (AV × Heap) := (kBlock 0 (kSeq Try.prog env nm_laws_toSymbolS (atrrr c_laws_toSymbolS) _ (kRet Try.prog Try.f29.results.toList)))
theorem e_laws_toSymbolS (env : Nat → Contract) (x0 : AV) (h : Heap) : denFn Try.prog env n_laws_toSymbolS [x0] h = obind (aLenK .slice x0) fun v1 => obind2 (aMakeSlice [(sv ⟨#[]⟩), (iv 0), (iv 0), (iv 0), (iv 0)] 48 v1 v1 h) fun v2 h3 => obind (loopP hm0_laws_toSymbolS xm0_laws_toSymbolS (lb0_laws_toSymbolS env) [x0, und, nilS, v2, (iv 0), x0, v1, v2, .top, .top, .top, .top, .top, .top, .top, .top, .top, .top, .top, .top, .top, .top, und] h3) fun r => lk0_laws_toSymbolS env r.1 r.2.1 r.2.2 := by kernel_rfl
theorem e_lb0_laws_toSymbolS (env : Nat → Contract) (y0 y1 y2 y3 y4 y5 y6 y7 y22 : AV) (h : Heap) : lb0_laws_toSymbolS env [y0, y1, y2, y3, y4, y5, y6, y7, .top, .top, .top, .top, .top, .top, .top, .top, .top, .top, .top, .top, .top, .top, y22] h = obind (aLenK .slice y0) fun v4 => obind (aBin .lss y4 v4) fun v5 => condB v5 (obind (aIndexAddr 5 y0 y4 h) fun v6 => obind (aLoad true 5 v6 h) fun v7 => obind2 (aCall (env n_laws_toSymbol) [v7] h) fun v8 h9 => obind (aIndexAddr 5 y3 y4 h9) fun v10 => obind (aStore 5 v10 v8 h9) fun h11 => obind (aBin .add y4 (iv 1)) fun v12 => some (.normal, [y0, y1, y2, y3, v12, y5, y6, y7, y4, y0, v4, v5, y4, v12, y3, y4, y0, y4, v6, v7, v8, v10, y22], h11)) (some (.exit 0, [y0, y1, y2, y3, y4, y5, y6, y7, y4, y0, v4, v5, .top, .top, .top, .top, .top, .top, .top, .top, .top, .top, y22], h)) := by kernel_rfl
theorem e_lk0x0_laws_toSymbolS (env : Nat → Contract) (z0 z1 z2 z3 z4 z5 z6 z7 z22 : AV) (h : Heap) : lk0_laws_toSymbolS env (.exit 0) [z0, z1, z2, z3, z4, z5, z6, z7, .top, .top, .top, .top, .top, .top, .top, .top, .top, .top, .top, .top, .top, .top, z22] h = some (z3, h) := by kernel_rfl
theorem hb_impl_SameSymbols : HasBody Try.prog n_impl_SameSymbols := ⟨Try.f30, _, Try.func30, rfl, by decide⟩
theorem e_impl_SameSymbols (env : Nat → Contract) (x0 x1 : AV) (h : Heap) : denFn Try.prog env n_impl_SameSymbols [x0, x1] h = obind2 (aCall (env n_slices_Equal_impl_Symbol_impl_Symbol) [x0, x1] h) fun v1 h2 => some (v1, h2) := by kernel_rfl
noncomputable abbrev c_laws_eqSymbolS : Code := (Try.f31.body).getD .skip
noncomputable abbrev nm_laws_eqSymbolS : List Bool := namedOf Try.f31
theorem hb_laws_eqSymbolS : HasBody Try.prog n_laws_eqSymbolS := ⟨Try.f31, _, Try.func31, rfl, by decide⟩
abbrev hm0_laws_eqSymbolS : List Bool := [true, true, true, true, false, true, true, true, true, true, true, false, false, false, false, false, false, false, false, false, false, false, false, false, false, false, false]
abbrev xm0_laws_eqSymbolS : List Bool := [true, true, true, true, true, true, true, true, true, true, true, false, false, false, false, false, false, false, false, false, false, false, false, false, false, false, false]
noncomputable def lb0_laws_eqSymbolS (env : Nat → Contract) : TM → Heap → Option Res := fun tm h => denC Try.prog env nm_laws_eqSymbolS (atrrlrll c_laws_eqSymbolS) Res tm h fun e tm h => some (e, tm, h)
noncomputable def lk0_laws_eqSymbolS (env : Nat → Contract) : AX → TM → Heap → Option (AV × Heap) := (kBlock 0 (kSeq Try.prog env nm_laws_eqSymbolS (atrrr c_laws_eqSymbolS) _ (kRet Try.prog Try.f31.results.toList)))
theorem e_laws_eqSymbolS (env : Nat → Contract) (x0 x1 : AV) (h : Heap) : denFn Try.prog env n_laws_eqSymbolS [x0, x1] h = obind (aLenK .slice x0) fun v1 => obind (aLenK .slice x1) fun v2 => obind (aCmp .neq .plain v1 v2) fun v3 => condB v3 (some ((bv false), h)) (obind (loopP hm0_laws_eqSymbolS xm0_laws_eqSymbolS (lb0_laws_eqSymbolS env) [x0, x1, und, und, .top, (iv 0), x0, v1, x1, v2, v3, .top, .top, .top, .top, .top, .top, .top, .top, .top, .top, .top, .top, .top, .top, .top, .top] h) fun r => lk0_laws_eqSymbolS env r.1 r.2.1 r.2.2) := by kernel_rfl
theorem e_lb0_laws_eqSymbolS (env : Nat → Contract) (y0 y1 y2 y3 y5 y6 y7 y8 y9 y10 : AV) (h : Heap) : lb0_laws_eqSymbolS env [y0, y1, y2, y3, .top, y5, y6, y7, y8, y9, y10, .top, .top, .top, .top, .top, .top, .top, .top, .top, .top, .top, .top, .top, .top, .top, .top] h = obind (aLenK .slice y0) fun v4 => obind (aBin .lss y5 v4) fun v5 => condB v5 (obind (aIndexAddr 5 y0 y5 h) fun v6 => obind (aLoad true 5 v6 h) fun v7 => obind (aIndexAddr 5 y1 y5 h) fun v8 => obind (aLoad true 5 v8 h) fun v9 => obind2 (aCallQ (env n_laws_eqSymbol) [v7, v9] h) fun v10 h11 => obind (aUn .not v10) fun v12 => condB v12 (some (.ret, [y0, y1, y2, y3, (bv false), y5, y6, y7, y8, y9, y10, y5, y0, v4, v5, .top, .top, y0, y5, v6, v7, y1, y5, v8, v9, v10, v12], h11)) (obind (aBin .add y5 (iv 1)) fun v13 => some (.normal, [y0, y1, y2, y3, .top, v13, y6, y7, y8, y9, y10, y5, y0, v4, v5, y5, v13, y0, y5, v6, v7, y1, y5, v8, v9, v10, v12], h11))) (some (.exit 0, [y0, y1, y2, y3, .top, y5, y6, y7, y8, y9, y10, y5, y0, v4, v5, .top, .top, .top, .top, .top, .top, .top, .top, .top, .top, .top, .top], h)) := by kernel_rfl
theorem e_lk0x0_laws_eqSymbolS (env : Nat → Contract) (z0 z1 z2 z3 z4 z5 z6 z7 z8 z9 z10 : AV) (h : Heap) : lk0_laws_eqSymbolS env (.exit 0) [z0, z1, z2, z3, z4, z5, z6, z7, z8, z9, z10, .top, .top, .top, .top, .top, .top, .top, .top, .top, .top, .top, .top, .top, .top, .top, .top] h = some ((bv true), h) := by kernel_rfl
theorem e_lk0r_laws_eqSymbolS (env : Nat → Contract) (z0 z1 z2 z3 z4 z5 z6 z7 z8 z9 z10 : AV) (h : Heap) : lk0_laws_eqSymbolS env .ret [z0, z1, z2, z3, z4, z5, z6, z7, z8, z9, z10, .top, .top, .top, .top, .top, .top, .top, .top, .top, .top, .top, .top, .top, .top, .top, .top] h = some (z4, h) := by kernel_rfl
theorem hb_laws_szSymbol : HasBody Try.prog n_laws_szSymbol := ⟨Try.f48, _, Try.func48, rfl, by decide⟩
theorem e_laws_szSymbol (env : Nat → Contract) (x0 x1 : AV) (h : Heap) : denFn Try.prog env n_laws_szSymbol [x0, x1] h = obind2 (aBox (AV.cells x0) h) fun v1 h2 => obind (aFieldAddr 0 v1) fun v3 => obind (aLoad false 1 v3 h2) fun v4 => obind (aLenK .str v4) fun v5 => obind (aBin .sub x1 v5) fun v6 => obind (aBin .lss v6 (iv 0)) fun v7 => condB v7 (some ((iv (-1)), h2)) (some (v6, h2)) := by kernel_rfl
theorem hb_laws_toSymbol : HasBody Try.prog n_laws_toSymbol := ⟨Try.f49, _, Try.func49, rfl, by decide⟩
theorem e_laws_toSymbol (env : Nat → Contract) (x0 : AV) (h : Heap) : denFn Try.prog env n_laws_toSymbol [x0] h = obind2 (aBox (AV.cells x0) h) fun v1 h2 => obind2 (aBox [(sv ⟨#[]⟩), (iv 0), (iv 0), (iv 0), (iv 0)] h2) fun v3 h4 => obind2 (aBox [(sv ⟨#[]⟩), (iv 0), (iv 0), (iv 0), (iv 0)] h4) fun v5 h6 => obind (aFieldAddr 0 v1) fun v7 => obind (aLoad false 1 v7 h6) fun v8 => obind (aFieldAddr 0 v5) fun v9 => obind (aStore 1 v9 v8 h6) fun h10 => obind (aFieldAddr 1 v1) fun v11 => obind (aLoad true 4 v11 h10) fun v12 => obind2 (aCall (env n_laws_toBox) [v12] h10) fun v13 h14 => obind (aFieldAddr 1 v5) fun v15 => obind (aStore 4 v15 v13 h14) fun h16 => obind (aLoad true 5 v5 h16) fun v17 => obind (aStore 5 v3 v17 h16) fun h18 => retL [.c true 5 v3] h18 := by kernel_rfl
noncomputable abbrev c_slices_Equal_impl_Symbol_impl_Symbol : Code := (Try.f50.body).getD .skip
noncomputable abbrev nm_slices_Equal_impl_Symbol_impl_Symbol : List Bool := namedOf Try.f50
theorem hb_slices_Equal_impl_Symbol_impl_Symbol : HasBody Try.prog n_slices_Equal_impl_Symbol_impl_Symbol := ⟨Try.f50, _, Try.func50, rfl, by decide⟩
abbrev hm0_slices_Equal_impl_Symbol_impl_Symbol : List Bool := [true, true, true, true, false, false, true, true, true, true, true, true, true, true, false, false, false, false, false, false, false, false, false, false, false, false]
abbrev xm0_slices_Equal_impl_Symbol_impl_Symbol : List Bool := [true, true, true, true, true, true, true, true, true, true, true, true, true, false, false, false, false, false, false, false, false, false, false, false, false, false]
noncomputable def lb0_slices_Equal_impl_Symbol_impl_Symbol (env : Nat → Contract) : TM → Heap → Option Res := fun tm h => denC Try.prog env nm_slices_Equal_impl_Symbol_impl_Symbol (atrrlrll c_slices_Equal_impl_Symbol_impl_Symbol) Res tm h fun e tm h => some (e, tm, h)
noncomputable def lk0_slices_Equal_impl_Symbol_impl_Symbol (env : Nat → Contract) : AX → TM → Heap → Option (AV × Heap) := (kBlock 0 (kSeq Try.prog env nm_slices_Equal_impl_Symbol_impl_Symbol (atrrr c_slices_Equal_impl_Symbol_impl_Symbol) _ (kRet Try.prog Try.f50.results.toList)))
theorem e_slices_Equal_impl_Symbol_impl_Symbol (env : Nat → Contract) (x0 x1 : AV) (h : Heap) : denFn Try.prog env n_slices_Equal_impl_Symbol_impl_Symbol [x0, x1] h = obind (aLenK .slice x0) fun v1 => obind (aLenK .slice x1) fun v2 => obind (aCmp .neq .plain v1 v2) fun v3 => condB v3 (some ((bv false), h)) (obind (aLenK .slice x0) fun v4 => obind (loopP hm0_slices_Equal_impl_Symbol_impl_Symbol xm0_slices_Equal_impl_Symbol_impl_Symbol (lb0_slices_Equal_impl_Symbol_impl_Symbol env) [x0, x1, und, und, .top, .top, x0, v1, x1, v2, v3, x0, v4, (iv 0), .top, .top, .top, .top, .top, .top, .top, .top, .top, .top, .top, .top] h) fun r => lk0_slices_Equal_impl_Symbol_impl_Symbol env r.1 r.2.1 r.2.2) := by kernel_rfl
theorem e_lb0_slices_Equal_impl_Symbol_impl_Symbol (env : Nat → Contract) (y0 y1 y2 y3 y6 y7 y8 y9 y10 y11 y12 y13 : AV) (h : Heap) : lb0_slices_Equal_impl_Symbol_impl_Symbol env [y0, y1, y2, y3, .top, .top, y6, y7, y8, y9, y10, y11, y12, y13, .top, .top, .top, .top, .top, .top, .top, .top, .top, .top, .top, .top] h = obind (aBin .lss y13 y12) fun v5 => condB v5 (obind (aIndexAddr 5 y0 y13 h) fun v6 => obind (aLoad true 5 v6 h) fun v7 => obind (aIndexAddr 5 y1 y13 h) fun v8 => obind (aLoad true 5 v8 h) fun v9 => obind (aCmp .neq (.agg [.str, .int, .int, .int, .int]) v7 v9) fun v10 => condB v10 (some (.ret, [y0, y1, y2, y3, (bv false), y13, y6, y7, y8, y9, y10, y11, y12, y13, v5, y13, y0, y13, v6, v7, y1, y13, v8, v9, v10, .top], h)) (obind (aBin .add y13 (iv 1)) fun v11 => some (.normal, [y0, y1, y2, y3, .top, y13, y6, y7, y8, y9, y10, y11, y12, v11, v5, y13, y0, y13, v6, v7, y1, y13, v8, v9, v10, v11], h))) (some (.exit 0, [y0, y1, y2, y3, .top, .top, y6, y7, y8, y9, y10, y11, y12, y13, v5, .top, .top, .top, .top, .top, .top, .top, .top, .top, .top, .top], h)) := by kernel_rfl
theorem e_lk0x0_slices_Equal_impl_Symbol_impl_Symbol (env : Nat → Contract) (z0 z1 z2 z3 z4 z5 z6 z7 z8 z9 z10 z11 z12 : AV) (h : Heap) : lk0_slices_Equal_impl_Symbol_impl_Symbol env (.exit 0) [z0, z1, z2, z3, z4, z5, z6, z7, z8, z9, z10, z11, z12, .top, .top, .top, .top, .top, .top, .top, .top, .top, .top, .top, .top, .top] h = some ((bv true), h) := by kernel_rfl
theorem e_lk0r_slices_Equal_impl_Symbol_impl_Symbol (env : Nat → Contract) (z0 z1 z2 z3 z4 z5 z6 z7 z8 z9 z10 z11 z12 : AV) (h : Heap) : lk0_slices_Equal_impl_Symbol_impl_Symbol env .ret [z0, z1, z2, z3, z4, z5, z6, z7, z8, z9, z10, z11, z12, .top, .top, .top, .top, .top, .top, .top, .top, .top, .top, .top, .top, .top] h = some (z4, h) := by kernel_rfl
theorem hb_laws_eqSymbol : HasBody Try.prog n_laws_eqSymbol := ⟨Try.f51, _, Try.func51, rfl, by decide⟩
theorem e_laws_eqSymbol (env : Nat → Contract) (x0 x1 : AV) (h : Heap) : denFn Try.prog env n_laws_eqSymbol [x0, x1] h = obind2 (aBox (AV.cells x0) h) fun v1 h2 => obind2 (aBox (AV.cells x1) h2) fun v3 h4 => obind (aFieldAddr 0 v1) fun v5 => obind (aLoad false 1 v5 h4) fun v6 => obind (aFieldAddr 0 v3) fun v7 => obind (aLoad false 1 v7 h4) fun v8 => obind (aCmp .neq .plain v6 v8) fun v9 => condB v9 (some ((bv false), h4)) (obind (aFieldAddr 1 v1) fun v10 => obind (aLoad true 4 v10 h4) fun v11 => obind (aFieldAddr 1 v3) fun v12 => obind (aLoad true 4 v12 h4) fun v13 => obind2 (aCall (env n_laws_eqBox) [v11, v13] h4) fun v14 h15 => obind (aUn .not v14) fun v16 => condB v16 (some ((bv false), h15)) (some ((bv true), h15))) := by kernel_rfl
theorem hb_laws_toBox : HasBody Try.prog n_laws_toBox := ⟨Try.f57, _, Try.func57, rfl, by decide⟩
theorem e_laws_toBox (env : Nat → Contract) (x0 : AV) (h : Heap) : denFn Try.prog env n_laws_toBox [x0] h = obind2 (aBox (AV.cells x0) h) fun v1 h2 => obind2 (aBox [(iv 0), (iv 0), (iv 0), (iv 0)] h2) fun v3 h4 => obind2 (aBox [(iv 0), (iv 0), (iv 0), (iv 0)] h4) fun v5 h6 => obind (aFieldAddr 0 v1) fun v7 => obind (aLoad false 1 v7 h6) fun v8 => obind (aFieldAddr 0 v5) fun v9 => obind (aStore 1 v9 v8 h6) fun h10 => obind (aFieldAddr 1 v1) fun v11 => obind (aLoad false 1 v11 h10) fun v12 => obind (aFieldAddr 1 v5) fun v13 => obind (aStore 1 v13 v12 h10) fun h14 => obind (aFieldAddr 2 v1) fun v15 => obind (aLoad false 1 v15 h14) fun v16 => obind (aFieldAddr 2 v5) fun v17 => obind (aStore 1 v17 v16 h14) fun h18 => obind (aFieldAddr 3 v1) fun v19 => obind (aLoad false 1 v19 h18) fun v20 => obind (aFieldAddr 3 v5) fun v21 => obind (aStore 1 v21 v20 h18) fun h22 => obind (aLoad true 4 v5 h22) fun v23 => obind (aStore 4 v3 v23 h22) fun h24 => retL [.c true 4 v3] h24 := by kernel_rfl
theorem hb_laws_eqBox : HasBody Try.prog n_laws_eqBox := ⟨Try.f58, _, Try.func58, rfl, by decide⟩
theorem e_laws_eqBox (env : Nat → Contract) (x0 x1 : AV) (h : Heap) : denFn Try.prog env n_laws_eqBox [x0, x1] h = obind2 (aBox (AV.cells x0) h) fun v1 h2 => obind2 (aBox (AV.cells x1) h2) fun v3 h4 => obind (aFieldAddr 0 v1) fun v5 => obind (aLoad false 1 v5 h4) fun v6 => obind (aFieldAddr 0 v3) fun v7 => obind (aLoad false 1 v7 h4) fun v8 => obind (aCmp .neq .plain v6 v8) fun v9 => condB v9 (some ((bv false), h4)) (obind (aFieldAddr 1 v1) fun v10 => obind (aLoad false 1 v10 h4) fun v11 => obind (aFieldAddr 1 v3) fun v12 => obind (aLoad false 1 v12 h4) fun v13 => obind (aCmp .neq .plain v11 v13) fun v14 => condB v14 (some ((bv false), h4)) (obind (aFieldAddr 2 v1) fun v15 => obind (aLoad false 1 v15 h4) fun v16 => obind (aFieldAddr 2 v3) fun v17 => obind (aLoad false 1 v17 h4) fun v18 => obind (aCmp .neq .plain v16 v18) fun v19 => condB v19 (some ((bv false), h4)) (obind (aFieldAddr 3 v1) fun v20 => obind (aLoad false 1 v20 h4) fun v21 => obind (aFieldAddr 3 v3) fun v22 => obind (aLoad false 1 v22 h4) fun v23 => obind (aCmp .neq .plain v21 v23) fun v24 => condB v24 (some ((bv false), h4)) (some ((bv true), h4))))) := by kernel_rfl
end Go.Proofs.Ytnimdpcfgfkdhab
