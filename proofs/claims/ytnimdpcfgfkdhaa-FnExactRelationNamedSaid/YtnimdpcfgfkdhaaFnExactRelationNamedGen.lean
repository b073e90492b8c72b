/-
  The runs of the functions of this seat, in open form. Printed by a program of mine (gen.py).
-/
import Derived.Test.YtnimdpcfgfkdhaaProg
import Derived.Test.YtnimdpcfgfkdhaaEngGua
namespace Go.Proofs.Ytnimdpcfgfkdhaa
open Go Go.Eng

@[simp] abbrev n_laws_FnExactRelationName : Nat := 3
@[simp] abbrev n_laws_FnExactRelationNamed : Nat := 4
@[simp] abbrev n_laws_FnExactMiddleOf : Nat := 5
@[simp] abbrev n_laws_FnExactValidFraction : Nat := 6
@[simp] abbrev n_laws_FnExactCommonArea : Nat := 7
@[simp] abbrev n_laws_FnExactRelationOf : Nat := 8
@[simp] abbrev n_spec_RelationName : Nat := 9
@[simp] abbrev n_impl_RelationName : Nat := 10
@[simp] abbrev n_spec_RelationNamed : Nat := 11
@[simp] abbrev n_impl_RelationNamed : Nat := 12
@[simp] abbrev n_spec_MiddleOf : Nat := 13
@[simp] abbrev n_laws_toBox : Nat := 14
@[simp] abbrev n_impl_MiddleOf : Nat := 15
@[simp] abbrev n_laws_eqSpot : Nat := 16
@[simp] abbrev n_spec_ValidFraction : Nat := 17
@[simp] abbrev n_laws_toFraction : Nat := 18
@[simp] abbrev n_impl_ValidFraction : Nat := 19
@[simp] abbrev n_spec_CommonArea : Nat := 20
@[simp] abbrev n_impl_CommonArea : Nat := 21
@[simp] abbrev n_spec_RelationOf : Nat := 22
@[simp] abbrev n_impl_RelationOf : Nat := 23
@[simp] abbrev n_spec_l00In : Nat := 24
@[simp] abbrev n_spec_l20Names : Nat := 25
@[simp] abbrev n_impl_within : Nat := 26
@[simp] abbrev n_impl_relationNames : Nat := 27
@[simp] abbrev n_slices_Index_string_string : Nat := 28
@[simp] abbrev n_spec_l02Box : Nat := 29
@[simp] abbrev n_impl_ValidBox : Nat := 30
@[simp] abbrev n_spec_l22Ok : Nat := 31
@[simp] abbrev n_impl_gcd : Nat := 32
@[simp] abbrev n_spec_l00Min : Nat := 33
@[simp] abbrev n_spec_l00Max : Nat := 34
@[simp] abbrev n_spec_l20Relation : Nat := 35
@[simp] abbrev n_impl_relation : Nat := 36
@[simp] abbrev n_spec_l22Gcd : Nat := 37
@[simp] abbrev n_spec_l05Size : Nat := 38
@[simp] abbrev n_impl_abs : Nat := 39
theorem mixed : Try.prog.follows .mixedOrders = true := by kernel_rfl
abbrev atrr (c : Code) : Code := (codeR (codeR c))
abbrev atrrr (c : Code) : Code := (codeR (codeR (codeR c)))
abbrev atrlrll (c : Code) : Code := (codeL (codeL (codeR (codeL (codeR c)))))
abbrev atrrlrll (c : Code) : Code := (codeL (codeL (codeR (codeL (codeR (codeR c))))))
theorem hb_laws_FnExactRelationNamed : HasBody Try.prog n_laws_FnExactRelationNamed := ⟨Try.f4, _, Try.func4, rfl, by decide⟩
theorem e_laws_FnExactRelationNamed (env : Nat → Contract) (x0 : AV) (h : Heap) : denFn Try.prog env n_laws_FnExactRelationNamed [x0] h = obind (aLenK .str x0) fun v1 => obind (aBin .gtr v1 (iv 1048576)) fun v2 => condB v2 (some ((bv true), h)) (obind2 (aCall (env n_spec_RelationNamed) [x0] h) fun v3 h4 => obind (aExtract v3 0) fun v5 => obind (aExtract v3 1) fun v6 => obind2 (aCall (env n_impl_RelationNamed) [x0] h4) fun v7 h8 => obind (aExtract v7 0) fun v9 => obind (aExtract v7 1) fun v10 => obind (aCmp .neq .plain v9 v5) fun v11 => obind2 (guardB v11 false (obind (aCmp .neq .plain v10 v6) fun v12 => some (v12, h8)) (some (und, h8))) fun v13 h14 => obind (aPick v11 (bv true) v13) fun v15 => condB v15 (some ((bv false), h14)) (some ((bv true), h14))) := by kernel_rfl
noncomputable abbrev c_spec_RelationNamed : Code := (Try.f11.body).getD .skip
noncomputable abbrev nm_spec_RelationNamed : List Bool := namedOf Try.f11
theorem hb_spec_RelationNamed : HasBody Try.prog n_spec_RelationNamed := ⟨Try.f11, _, Try.func11, rfl, by decide⟩
abbrev hm0_spec_RelationNamed : List Bool := [true, true, false, false, true, true, true, false, false, false, false, false, false, false, false, false, false, false, false, false]
abbrev xm0_spec_RelationNamed : List Bool := [true, true, true, true, true, true, true, false, false, false, false, false, false, false, false, false, false, false, false, false]
noncomputable def lb0_spec_RelationNamed (env : Nat → Contract) : TM → Heap → Option Res := fun tm h => denC Try.prog env nm_spec_RelationNamed (atrrlrll c_spec_RelationNamed) Res tm h fun e tm h => some (e, tm, h)
noncomputable def lk0_spec_RelationNamed (env : Nat → Contract) : AX → TM → Heap → Option (AV × Heap) := (kBlock 0 (kSeq Try.prog env nm_spec_RelationNamed (atrrr c_spec_RelationNamed) _ (kRet Try.prog Try.f11.results.toList)))
theorem e_spec_RelationNamed (env : Nat → Contract) (x0 : AV) (h : Heap) : denFn Try.prog env n_spec_RelationNamed [x0] h = obind2 (aCall (env n_spec_l20Names) [] h) fun v1 h2 => obind (loopP hm0_spec_RelationNamed xm0_spec_RelationNamed (lb0_spec_RelationNamed env) [x0, und, .top, .top, v1, (iv 0), v1, .top, .top, .top, .top, .top, .top, .top, .top, .top, .top, .top, .top, .top] h2) fun r => lk0_spec_RelationNamed env r.1 r.2.1 r.2.2 := by kernel_rfl
theorem e_lb0_spec_RelationNamed (env : Nat → Contract) (y0 y1 y4 y5 y6 : AV) (h : Heap) : lb0_spec_RelationNamed env [y0, y1, .top, .top, y4, y5, y6, .top, .top, .top, .top, .top, .top, .top, .top, .top, .top, .top, .top, .top] h = obind (aLenK .slice y4) fun v3 => obind (aBin .lss y5 v3) fun v4 => condB v4 (obind (aIndexAddr 1 y4 y5 h) fun v5 => obind (aLoad false 1 v5 h) fun v6 => obind (aCmp .eql .plain v6 y0) fun v7 => condB v7 (some (.ret, [y0, y1, y5, (iv 0), y4, y5, y6, y5, y4, v3, v4, .top, .top, y4, y5, v5, v6, y0, v7, y5], h)) (obind (aBin .add y5 (iv 1)) fun v8 => some (.normal, [y0, y1, .top, .top, y4, v8, y6, y5, y4, v3, v4, y5, v8, y4, y5, v5, v6, y0, v7, .top], h))) (some (.exit 0, [y0, y1, .top, .top, y4, y5, y6, y5, y4, v3, v4, .top, .top, .top, .top, .top, .top, .top, .top, .top], h)) := by kernel_rfl
theorem e_lk0x0_spec_RelationNamed (env : Nat → Contract) (z0 z1 z2 z3 z4 z5 z6 : AV) (h : Heap) : lk0_spec_RelationNamed env (.exit 0) [z0, z1, z2, z3, z4, z5, z6, .top, .top, .top, .top, .top, .top, .top, .top, .top, .top, .top, .top, .top] h = some ((.tup [(iv 0), (iv 3)]), h) := by kernel_rfl
theorem e_lk0r_spec_RelationNamed (env : Nat → Contract) (z0 z1 z2 z3 z4 z5 z6 : AV) (h : Heap) : lk0_spec_RelationNamed env .ret [z0, z1, z2, z3, z4, z5, z6, .top, .top, .top, .top, .top, .top, .top, .top, .top, .top, .top, .top, .top] h = some ((.tup [z2, z3]), h) := by kernel_rfl
theorem hb_impl_RelationNamed : HasBody Try.prog n_impl_RelationNamed := ⟨Try.f12, _, Try.func12, rfl, by decide⟩
theorem e_impl_RelationNamed (env : Nat → Contract) (x0 : AV) (h : Heap) : denFn Try.prog env n_impl_RelationNamed [x0] h = obind2 (aCall (env n_impl_relationNames) [] h) fun v1 h2 => obind2 (aCall (env n_slices_Index_string_string) [v1, x0] h2) fun v3 h4 => obind (aBin .lss v3 (iv 0)) fun v5 => condB v5 (some ((.tup [(iv 0), (iv 3)]), h4)) (some ((.tup [v3, (iv 0)]), h4)) := by kernel_rfl
theorem hb_spec_l20Names : HasBody Try.prog n_spec_l20Names := ⟨Try.f25, _, Try.func25, rfl, by decide⟩
theorem e_spec_l20Names (env : Nat → Contract) (h : Heap) : denFn Try.prog env n_spec_l20Names [] h = obind2 (aBuildSlice [(sv ⟨#[]⟩)] 7 [(0, (sv ⟨#[110, 111, 110, 101]⟩)), (1, (sv ⟨#[114, 105, 103, 104, 116]⟩)), (2, (sv ⟨#[97, 98, 111, 118, 101]⟩)), (3, (sv ⟨#[98, 101, 108, 111, 119]⟩)), (4, (sv ⟨#[117, 112, 112, 101, 114]⟩)), (5, (sv ⟨#[108, 111, 119, 101, 114]⟩)), (6, (sv ⟨#[105, 110, 115, 105, 100, 101]⟩))] h) fun v1 h2 => some (v1, h2) := by kernel_rfl
theorem hb_impl_relationNames : HasBody Try.prog n_impl_relationNames := ⟨Try.f27, _, Try.func27, rfl, by decide⟩
theorem e_impl_relationNames (env : Nat → Contract) (h : Heap) : denFn Try.prog env n_impl_relationNames [] h = obind2 (aBuildSlice [(sv ⟨#[]⟩)] 7 [(0, (sv ⟨#[110, 111, 110, 101]⟩)), (1, (sv ⟨#[114, 105, 103, 104, 116]⟩)), (2, (sv ⟨#[97, 98, 111, 118, 101]⟩)), (3, (sv ⟨#[98, 101, 108, 111, 119]⟩)), (4, (sv ⟨#[117, 112, 112, 101, 114]⟩)), (5, (sv ⟨#[108, 111, 119, 101, 114]⟩)), (6, (sv ⟨#[105, 110, 115, 105, 100, 101]⟩))] h) fun v1 h2 => some (v1, h2) := by kernel_rfl
noncomputable abbrev c_slices_Index_string_string : Code := (Try.f28.body).getD .skip
noncomputable abbrev nm_slices_Index_string_string : List Bool := namedOf Try.f28
theorem hb_slices_Index_string_string : HasBody Try.prog n_slices_Index_string_string := ⟨Try.f28, _, Try.func28, rfl, by decide⟩
abbrev hm0_slices_Index_string_string : List Bool := [true, true, true, true, false, false, true, true, true, false, false, false, false, false, false, false, false, false, false]
abbrev xm0_slices_Index_string_string : List Bool := [true, true, true, true, true, true, true, true, false, false, false, false, false, false, false, false, false, false, false]
noncomputable def lb0_slices_Index_string_string (env : Nat → Contract) : TM → Heap → Option Res := fun tm h => denC Try.prog env nm_slices_Index_string_string (atrlrll c_slices_Index_string_string) Res tm h fun e tm h => some (e, tm, h)
noncomputable def lk0_slices_Index_string_string (env : Nat → Contract) : AX → TM → Heap → Option (AV × Heap) := (kBlock 0 (kSeq Try.prog env nm_slices_Index_string_string (atrr c_slices_Index_string_string) _ (kRet Try.prog Try.f28.results.toList)))
theorem e_slices_Index_string_string (env : Nat → Contract) (x0 x1 : AV) (h : Heap) : denFn Try.prog env n_slices_Index_string_string [x0, x1] h = obind (aLenK .slice x0) fun v1 => obind (loopP hm0_slices_Index_string_string xm0_slices_Index_string_string (lb0_slices_Index_string_string env) [x0, x1, und, und, .top, .top, x0, v1, (iv 0), .top, .top, .top, .top, .top, .top, .top, .top, .top, .top] h) fun r => lk0_slices_Index_string_string env r.1 r.2.1 r.2.2 := by kernel_rfl
theorem e_lb0_slices_Index_string_string (env : Nat → Contract) (y0 y1 y2 y3 y6 y7 y8 : AV) (h : Heap) : lb0_slices_Index_string_string env [y0, y1, y2, y3, .top, .top, y6, y7, y8, .top, .top, .top, .top, .top, .top, .top, .top, .top, .top] h = obind (aBin .lss y8 y7) fun v2 => condB v2 (obind (aIndexAddr 1 y0 y8 h) fun v3 => obind (aLoad false 1 v3 h) fun v4 => obind (aCmp .eql .plain y1 v4) fun v5 => condB v5 (some (.ret, [y0, y1, y2, y3, y8, y8, y6, y7, y8, v2, y8, y1, y0, y8, v3, v4, v5, y8, .top], h)) (obind (aBin .add y8 (iv 1)) fun v6 => some (.normal, [y0, y1, y2, y3, .top, y8, y6, y7, v6, v2, y8, y1, y0, y8, v3, v4, v5, .top, v6], h))) (some (.exit 0, [y0, y1, y2, y3, .top, .top, y6, y7, y8, v2, .top, .top, .top, .top, .top, .top, .top, .top, .top], h)) := by kernel_rfl
theorem e_lk0x0_slices_Index_string_string (env : Nat → Contract) (z0 z1 z2 z3 z4 z5 z6 z7 : AV) (h : Heap) : lk0_slices_Index_string_string env (.exit 0) [z0, z1, z2, z3, z4, z5, z6, z7, .top, .top, .top, .top, .top, .top, .top, .top, .top, .top, .top] h = some ((iv (-1)), h) := by kernel_rfl
theorem e_lk0r_slices_Index_string_string (env : Nat → Contract) (z0 z1 z2 z3 z4 z5 z6 z7 : AV) (h : Heap) : lk0_slices_Index_string_string env .ret [z0, z1, z2, z3, z4, z5, z6, z7, .top, .top, .top, .top, .top, .top, .top, .top, .top, .top, .top] h = some (z4, h) := by kernel_rfl
end Go.Proofs.Ytnimdpcfgfkdhaa
