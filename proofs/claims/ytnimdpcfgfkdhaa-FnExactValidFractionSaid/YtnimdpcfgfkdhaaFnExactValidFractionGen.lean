/-
  The runs of the functions of this seat, in open form. Printed by a program of mine (gen.py).
-/
import Derived.Test.YtnimdpcfgfkdhaaProg
import Derived.Test.YtnimdpcfgfkdhaaEngGua
namespace Go.Proofs.Ytnimdpcfgfkdhaa
open Go Go.Eng

@[simp] abbrev n_laws_FnExactRelationName : Nat := 3
@[simp] abbrev n_laws_FnExactRelationNamed : Nat := 4
@[simp] abbrev n_laws_FnExactMiddleOf : Nat := 5
@[simp] abbrev n_laws_FnExactValidFraction : Nat := 6
@[simp] abbrev n_laws_FnExactCommonArea : Nat := 7
@[simp] abbrev n_laws_FnExactRelationOf : Nat := 8
@[simp] abbrev n_spec_RelationName : Nat := 9
@[simp] abbrev n_impl_RelationName : Nat := 10
@[simp] abbrev n_spec_RelationNamed : Nat := 11
@[simp] abbrev n_impl_RelationNamed : Nat := 12
@[simp] abbrev n_spec_MiddleOf : Nat := 13
@[simp] abbrev n_laws_toBox : Nat := 14
@[simp] abbrev n_impl_MiddleOf : Nat := 15
@[simp] abbrev n_laws_eqSpot : Nat := 16
@[simp] abbrev n_spec_ValidFraction : Nat := 17
@[simp] abbrev n_laws_toFraction : Nat := 18
@[simp] abbrev n_impl_ValidFraction : Nat := 19
@[simp] abbrev n_spec_CommonArea : Nat := 20
@[simp] abbrev n_impl_CommonArea : Nat := 21
@[simp] abbrev n_spec_RelationOf : Nat := 22
@[simp] abbrev n_impl_RelationOf : Nat := 23
@[simp] abbrev n_spec_l00In : Nat := 24
@[simp] abbrev n_spec_l20Names : Nat := 25
@[simp] abbrev n_impl_within : Nat := 26
@[simp] abbrev n_impl_relationNames : Nat := 27
@[simp] abbrev n_slices_Index_string_string : Nat := 28
@[simp] abbrev n_spec_l02Box : Nat := 29
@[simp] abbrev n_impl_ValidBox : Nat := 30
@[simp] abbrev n_spec_l22Ok : Nat := 31
@[simp] abbrev n_impl_gcd : Nat := 32
@[simp] abbrev n_spec_l00Min : Nat := 33
@[simp] abbrev n_spec_l00Max : Nat := 34
@[simp] abbrev n_spec_l20Relation : Nat := 35
@[simp] abbrev n_impl_relation : Nat := 36
@[simp] abbrev n_spec_l22Gcd : Nat := 37
@[simp] abbrev n_spec_l05Size : Nat := 38
@[simp] abbrev n_impl_abs : Nat := 39
theorem mixed : Try.prog.follows .mixedOrders = true := by kernel_rfl
abbrev atrr (c : Code) : Code := (codeR (codeR c))
abbrev atrlll (c : Code) : Code := (codeL (codeL (codeL (codeR c))))
theorem hb_laws_FnExactValidFraction : HasBody Try.prog n_laws_FnExactValidFraction := ⟨Try.f6, _, Try.func6, rfl, by decide⟩
theorem e_laws_FnExactValidFraction (env : Nat → Contract) (x0 : AV) (h : Heap) : denFn Try.prog env n_laws_FnExactValidFraction [x0] h = obind2 (aBox (AV.cells x0) h) fun v1 h2 => obind (aLoad true 2 v1 h2) fun v3 => obind2 (aCall (env n_laws_toFraction) [v3] h2) fun v4 h5 => obind2 (aCall (env n_spec_ValidFraction) [v4] h5) fun v6 h7 => obind (aLoad true 2 v1 h7) fun v8 => obind2 (aCall (env n_laws_toFraction) [v8] h7) fun v9 h10 => obind2 (aCall (env n_impl_ValidFraction) [v9] h10) fun v11 h12 => obind (aCmp .neq .bool v11 v6) fun v13 => condB v13 (some ((bv false), h12)) (some ((bv true), h12)) := by kernel_rfl
theorem hb_spec_ValidFraction : HasBody Try.prog n_spec_ValidFraction := ⟨Try.f17, _, Try.func17, rfl, by decide⟩
theorem e_spec_ValidFraction (env : Nat → Contract) (x0 : AV) (h : Heap) : denFn Try.prog env n_spec_ValidFraction [x0] h = obind2 (aBox (AV.cells x0) h) fun v1 h2 => obind (aLoad true 2 v1 h2) fun v3 => obind2 (aCall (env n_spec_l22Ok) [v3] h2) fun v4 h5 => some (v4, h5) := by kernel_rfl
theorem hb_laws_toFraction : HasBody Try.prog n_laws_toFraction := ⟨Try.f18, _, Try.func18, rfl, by decide⟩
theorem e_laws_toFraction (env : Nat → Contract) (x0 : AV) (h : Heap) : denFn Try.prog env n_laws_toFraction [x0] h = obind2 (aBox (AV.cells x0) h) fun v1 h2 => obind2 (aBox [(iv 0), (iv 0)] h2) fun v3 h4 => obind2 (aBox [(iv 0), (iv 0)] h4) fun v5 h6 => obind (aFieldAddr 0 v1) fun v7 => obind (aLoad false 1 v7 h6) fun v8 => obind (aFieldAddr 0 v5) fun v9 => obind (aStore 1 v9 v8 h6) fun h10 => obind (aFieldAddr 1 v1) fun v11 => obind (aLoad false 1 v11 h10) fun v12 => obind (aFieldAddr 1 v5) fun v13 => obind (aStore 1 v13 v12 h10) fun h14 => obind (aLoad true 2 v5 h14) fun v15 => obind (aStore 2 v3 v15 h14) fun h16 => retL [.c true 2 v3] h16 := by kernel_rfl
theorem hb_impl_ValidFraction : HasBody Try.prog n_impl_ValidFraction := ⟨Try.f19, _, Try.func19, rfl, by decide⟩
theorem e_impl_ValidFraction (env : Nat → Contract) (x0 : AV) (h : Heap) : denFn Try.prog env n_impl_ValidFraction [x0] h = obind2 (aBox (AV.cells x0) h) fun v1 h2 => obind (aFieldAddr 0 v1) fun v3 => obind (aLoad false 1 v3 h2) fun v4 => obind2 (aCall (env n_impl_within) [v4, (iv (-1000000000)), (iv 1000000000)] h2) fun v5 h6 => obind2 (guardB v5 true (obind (aFieldAddr 1 v1) fun v7 => obind (aLoad false 1 v7 h6) fun v8 => obind2 (aCall (env n_impl_within) [v8, (iv 1), (iv 1000000000)] h6) fun v9 h10 => some (v9, h10)) (some (und, h6))) fun v11 h12 => obind (aPick v5 v11 (bv false)) fun v13 => obind2 (guardB v13 true (obind (aFieldAddr 0 v1) fun v14 => obind (aLoad false 1 v14 h12) fun v15 => obind (aFieldAddr 1 v1) fun v16 => obind (aLoad false 1 v16 h12) fun v17 => obind2 (aCall (env n_impl_gcd) [v15, v17] h12) fun v18 h19 => obind (aCmp .eql .plain v18 (iv 1)) fun v20 => some (v20, h19)) (some (und, h12))) fun v21 h22 => obind (aPick v13 v21 (bv false)) fun v23 => some (v23, h22) := by kernel_rfl
theorem hb_spec_l00In : HasBody Try.prog n_spec_l00In := ⟨Try.f24, _, Try.func24, rfl, by decide⟩
theorem e_spec_l00In (env : Nat → Contract) (x0 x1 x2 : AV) (h : Heap) : denFn Try.prog env n_spec_l00In [x0, x1, x2] h = obind (aBin .geq x0 x1) fun v1 => obind2 (guardB v1 true (obind (aBin .leq x0 x2) fun v2 => some (v2, h)) (some (und, h))) fun v3 h4 => obind (aPick v1 v3 (bv false)) fun v5 => some (v5, h4) := by kernel_rfl
theorem hb_impl_within : HasBody Try.prog n_impl_within := ⟨Try.f26, _, Try.func26, rfl, by decide⟩
theorem e_impl_within (env : Nat → Contract) (x0 x1 x2 : AV) (h : Heap) : denFn Try.prog env n_impl_within [x0, x1, x2] h = obind (aBin .geq x0 x1) fun v1 => obind2 (guardB v1 true (obind (aBin .leq x0 x2) fun v2 => some (v2, h)) (some (und, h))) fun v3 h4 => obind (aPick v1 v3 (bv false)) fun v5 => some (v5, h4) := by kernel_rfl
theorem hb_spec_l22Ok : HasBody Try.prog n_spec_l22Ok := ⟨Try.f31, _, Try.func31, rfl, by decide⟩
theorem e_spec_l22Ok (env : Nat → Contract) (x0 : AV) (h : Heap) : denFn Try.prog env n_spec_l22Ok [x0] h = obind2 (aBox (AV.cells x0) h) fun v1 h2 => obind (aFieldAddr 1 v1) fun v3 => obind (aLoad false 1 v3 h2) fun v4 => obind2 (aCallQ (env n_spec_l00In) [v4, (iv 1), (iv 1000000000)] h2) fun v5 h6 => obind2 (guardB v5 true (obind (aFieldAddr 0 v1) fun v7 => some (v7, h6)) (some (und, h6))) fun v8 h9 => obind2 (guardB v5 true (obind (aLoad false 1 v8 h9) fun v10 => some (v10, h9)) (some (und, h9))) fun v11 h12 => obind2 (guardB v5 true (obind2 (aCallQ (env n_spec_l00In) [v11, (iv (-1000000000)), (iv 1000000000)] h12) fun v13 h14 => some (v13, h14)) (some (und, h12))) fun v15 h16 => obind (aPick v5 v15 (bv false)) fun v17 => obind2 (guardB v17 true (obind (aFieldAddr 0 v1) fun v18 => some (v18, h16)) (some (und, h16))) fun v19 h20 => obind2 (guardB v17 true (obind (aLoad false 1 v19 h20) fun v21 => some (v21, h20)) (some (und, h20))) fun v22 h23 => obind2 (guardB v17 true (obind2 (aCallQ (env n_spec_l05Size) [v22] h23) fun v24 h25 => some (v24, h25)) (some (und, h23))) fun v26 h27 => obind2 (guardB v17 true (obind (aFieldAddr 1 v1) fun v28 => some (v28, h27)) (some (und, h27))) fun v29 h30 => obind2 (guardB v17 true (obind (aLoad false 1 v29 h30) fun v31 => some (v31, h30)) (some (und, h30))) fun v32 h33 => obind2 (guardB v17 true (obind2 (aCallQ (env n_spec_l22Gcd) [v26, v32] h33) fun v34 h35 => some (v34, h35)) (some (und, h33))) fun v36 h37 => obind2 (guardB v17 true (obind (aCmp .eql .plain v36 (iv 1)) fun v38 => some (v38, h37)) (some (und, h37))) fun v39 h40 => obind (aPick v17 v39 (bv false)) fun v41 => some (v41, h40) := by kernel_rfl
noncomputable abbrev c_impl_gcd : Code := (Try.f32.body).getD .skip
noncomputable abbrev nm_impl_gcd : List Bool := namedOf Try.f32
theorem hb_impl_gcd : HasBody Try.prog n_impl_gcd := ⟨Try.f32, _, Try.func32, rfl, by decide⟩
abbrev hm0_impl_gcd : List Bool := [true, true, true, true, true, false, false, false, false, false, false, true, true]
abbrev xm0_impl_gcd : List Bool := [true, true, true, true, true, false, false, false, false, false, false, true, true]
noncomputable def lb0_impl_gcd (env : Nat → Contract) : TM → Heap → Option Res := fun tm h => denC Try.prog env nm_impl_gcd (atrlll c_impl_gcd) Res tm h fun e tm h => some (e, tm, h)
noncomputable def lk0_impl_gcd (env : Nat → Contract) : AX → TM → Heap → Option (AV × Heap) := (kBlock 0 (kSeq Try.prog env nm_impl_gcd (atrr c_impl_gcd) _ (kRet Try.prog Try.f32.results.toList)))
theorem e_impl_gcd (env : Nat → Contract) (x0 x1 : AV) (h : Heap) : denFn Try.prog env n_impl_gcd [x0, x1] h = obind (loopP hm0_impl_gcd xm0_impl_gcd (lb0_impl_gcd env) [x0, x1, und, und, (iv 0), .top, .top, .top, .top, .top, .top, und, und] h) fun r => lk0_impl_gcd env r.1 r.2.1 r.2.2 := by kernel_rfl
theorem e_lb0_impl_gcd (env : Nat → Contract) (y0 y1 y2 y3 y4 y11 y12 : AV) (h : Heap) : lb0_impl_gcd env [y0, y1, y2, y3, y4, .top, .top, .top, .top, .top, .top, y11, y12] h = obind (aCmp .neq .plain y1 (iv 0)) fun v1 => condB v1 (obind (aBin .rem y0 y1) fun v2 => some (.normal, [y1, v2, y2, y3, y4, y1, v1, y1, y0, y1, v2, y11, y12], h)) (some (.exit 0, [y0, y1, y2, y3, y4, y1, v1, .top, .top, .top, .top, y11, y12], h)) := by kernel_rfl
theorem e_lk0x0_impl_gcd (env : Nat → Contract) (z0 z1 z2 z3 z4 z11 z12 : AV) (h : Heap) : lk0_impl_gcd env (.exit 0) [z0, z1, z2, z3, z4, .top, .top, .top, .top, .top, .top, z11, z12] h = obind2 (aCall (env n_impl_abs) [z0] h) fun v3 h4 => some (v3, h4) := by kernel_rfl
noncomputable abbrev c_spec_l22Gcd : Code := (Try.f37.body).getD .skip
noncomputable abbrev nm_spec_l22Gcd : List Bool := namedOf Try.f37
theorem hb_spec_l22Gcd : HasBody Try.prog n_spec_l22Gcd := ⟨Try.f37, _, Try.func37, rfl, by decide⟩
abbrev hm0_spec_l22Gcd : List Bool := [true, true, true, true, true, false, false, false, false, false, false, true]
abbrev xm0_spec_l22Gcd : List Bool := [true, true, true, true, true, false, false, false, false, false, false, true]
noncomputable def lb0_spec_l22Gcd (env : Nat → Contract) : TM → Heap → Option Res := fun tm h => denC Try.prog env nm_spec_l22Gcd (atrlll c_spec_l22Gcd) Res tm h fun e tm h => some (e, tm, h)
noncomputable def lk0_spec_l22Gcd (env : Nat → Contract) : AX → TM → Heap → Option (AV × Heap) := (kBlock 0 (kSeq Try.prog env nm_spec_l22Gcd (atrr c_spec_l22Gcd) _ (kRet Try.prog Try.f37.results.toList)))
theorem e_spec_l22Gcd (env : Nat → Contract) (x0 x1 : AV) (h : Heap) : denFn Try.prog env n_spec_l22Gcd [x0, x1] h = obind (loopP hm0_spec_l22Gcd xm0_spec_l22Gcd (lb0_spec_l22Gcd env) [x0, x1, und, und, (iv 0), .top, .top, .top, .top, .top, .top, und] h) fun r => lk0_spec_l22Gcd env r.1 r.2.1 r.2.2 := by kernel_rfl
theorem e_lb0_spec_l22Gcd (env : Nat → Contract) (y0 y1 y2 y3 y4 y11 : AV) (h : Heap) : lb0_spec_l22Gcd env [y0, y1, y2, y3, y4, .top, .top, .top, .top, .top, .top, y11] h = obind (aCmp .neq .plain y1 (iv 0)) fun v1 => condB v1 (obind (aBin .rem y0 y1) fun v2 => some (.normal, [y1, v2, y2, y3, y4, y1, v1, y1, y0, y1, v2, y11], h)) (some (.exit 0, [y0, y1, y2, y3, y4, y1, v1, .top, .top, .top, .top, y11], h)) := by kernel_rfl
theorem e_lk0x0_spec_l22Gcd (env : Nat → Contract) (z0 z1 z2 z3 z4 z11 : AV) (h : Heap) : lk0_spec_l22Gcd env (.exit 0) [z0, z1, z2, z3, z4, .top, .top, .top, .top, .top, .top, z11] h = some (z0, h) := by kernel_rfl
theorem hb_spec_l05Size : HasBody Try.prog n_spec_l05Size := ⟨Try.f38, _, Try.func38, rfl, by decide⟩
theorem e_spec_l05Size (env : Nat → Contract) (x0 : AV) (h : Heap) : denFn Try.prog env n_spec_l05Size [x0] h = obind (aBin .lss x0 (iv 0)) fun v1 => condB v1 (obind (aUn .neg x0) fun v2 => some (v2, h)) (some (x0, h)) := by kernel_rfl
theorem hb_impl_abs : HasBody Try.prog n_impl_abs := ⟨Try.f39, _, Try.func39, rfl, by decide⟩
theorem e_impl_abs (env : Nat → Contract) (x0 : AV) (h : Heap) : denFn Try.prog env n_impl_abs [x0] h = obind (aBin .lss x0 (iv 0)) fun v1 => condB v1 (obind (aUn .neg x0) fun v2 => some (v2, h)) (some (x0, h)) := by kernel_rfl
end Go.Proofs.Ytnimdpcfgfkdhaa
