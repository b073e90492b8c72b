/-
  The law FnBounds holds, for all arguments: it returns true, and its arguments read behind the call as before. No condition.
-/
import Derived.Test.YtpdkgjfefhiaiaaFnBoundsPartA
import Derived.Test.YtpdkgjfefhiaiaaRows
namespace Go.Proofs.Ytpdkgjfefhiaiaa
open Go Go.Eng Go.Eng.Cod
set_option maxRecDepth 100000
set_option linter.unusedVariables false
set_option linter.unusedSimpArgs false

def t_impl_EnvelopeOf (b_ : Sl Feat) (n_ : Int) (band_ : Int) : Option (Envelope × Int) :=
  obind (t_impl_ValidSeq b_) fun c5 =>
  bif !c5 then
    some ((⟨(none : Sl Int), (none : Sl Int), (none : Sl Int), (none : Sl Int)⟩ : Envelope), 1)
  else
    obind (some (within n_ 1 72)) fun c9 =>
    obind (bif !c9 then some false else (obind (t_impl_isBand band_ n_ (((b_.getD []).length : Nat) : Int)) fun c11 => some (!c11))) fun c12 =>
    bif (bif !c9 then true else c12) then
      some ((⟨(none : Sl Int), (none : Sl Int), (none : Sl Int), (none : Sl Int)⟩ : Envelope), 2)
    else
      obind (t_impl_envelopeOf b_ n_ band_) fun c16 =>
      some (c16, 0)

theorem ts_impl_EnvelopeOf (env : Nat → Contract) (he_impl_ValidSeq : env n_impl_ValidSeq = .pure (C1 (fun c : Bool => enc c) t_impl_ValidSeq)) (he_impl_envelopeOf : env n_impl_envelopeOf = .pure (C3 (fun c : Envelope => AV.agg [rS c.lowx, rS c.highx, rS c.lowy, rS c.highy]) t_impl_envelopeOf)) (he_impl_isBand : env n_impl_isBand = .pure (C3 (fun c : Bool => enc c) t_impl_isBand)) (he_impl_within : env n_impl_within = .pure (T3 within)) (b_ : Sl Feat) (n_ : Int) (band_ : Int) : Sim (denFn Try.prog env n_impl_EnvelopeOf [Sl.enc b_, iv n_, iv band_] []) (t_impl_EnvelopeOf b_ n_ band_) fun c p => release p.2 depth p.1 = some ((fun c : Envelope × Int => AV.tup [AV.agg [rS c.1.lowx, rS c.1.highx, rS c.1.lowy, rS c.1.highy], enc c.2]) c) := by
  have O := Hold.nil []
  generalize hB : (⟨[], []⟩ : Base) = B at O
  clear hB
  rw [e_impl_EnvelopeOf]
  unfold t_impl_EnvelopeOf
  refine sim_box O (cs := [nilS, nilS, nilS, nilS]) (by first | rfl | simp) (fun o1 h2 O3 => ?_)
  replace O3 : Hold B h2 [(AV.ptr o1 1 0 0, .pt 4 [nilS, nilS, nilS, nilS])] := O3
  refine sim_call1 he_impl_ValidSeq (snapD_enc _ _) (fun c5 => ?_)
  refine sim_let2 (hand_plain (by rfl) _ _) ?_
  refine sim_let (v := bv (!c5)) (aUn_not _) ?_
  refine sim_cond (fun c6 => ?_) (fun c6 => ?_)
  · refine sim_let (v := AV.agg [nilS, nilS, nilS, nilS]) (by first | rfl | simp [aBuild, aFill, splice]) ?_
    refine sim_store O3 0 (cs' := [nilS, nilS, nilS, nilS]) rfl (by first | rfl | simp) (by simp) (by first | rfl | simp) (by first | rfl | simp [splice]) (fun h7 O8 => ?_)
    replace O8 : Hold B h7 [(AV.ptr o1 1 0 0, .pt 4 [nilS, nilS, nilS, nilS])] := O8
    refine sim_retL (resL_c (v := AV.agg [nilS, nilS, nilS, nilS]) (O8.ld 0 rfl true 4 0) (resL_v (v := iv 1) (resL_nil _))) ?_
    dsimp only [pack]
    exact sim_ret (release_plain (by rfl) _)
  · refine sim_callV3 (t := within) he_impl_within (snapD_int _ _) (snapD_int _ _) (snapD_int _ _) (fun c9 => ?_)
    refine sim_let (v := bv (!c9)) (aUn_not _) ?_
    refine sim_guardF (e := bv) (fun hb10 => ?_) (fun c12 => ?_)
    · refine sim_let (v := iv (((b_.getD []).length : Nat) : Int)) (Tab.enc h2 b_).len ?_
      refine sim_call3 he_impl_isBand (snapD_int _ _) (snapD_int _ _) (snapD_int _ _) (fun c11 => ?_)
      refine sim_let2 (hand_plain (by rfl) _ _) ?_
      refine sim_let (v := bv (!c11)) (aUn_not _) ?_
      exact sim_ret rfl
    · refine sim_let (v := bv (bif !c9 then true else c12)) (pick_b' _ _ _) ?_
      refine sim_cond (fun c13 => ?_) (fun c13 => ?_)
      · refine sim_let (v := AV.agg [nilS, nilS, nilS, nilS]) (by first | rfl | simp [aBuild, aFill, splice]) ?_
        refine sim_store O3 0 (cs' := [nilS, nilS, nilS, nilS]) rfl (by first | rfl | simp) (by simp) (by first | rfl | simp) (by first | rfl | simp [splice]) (fun h14 O15 => ?_)
        replace O15 : Hold B h14 [(AV.ptr o1 1 0 0, .pt 4 [nilS, nilS, nilS, nilS])] := O15
        refine sim_retL (resL_c (v := AV.agg [nilS, nilS, nilS, nilS]) (O15.ld 0 rfl true 4 0) (resL_v (v := iv 2) (resL_nil _))) ?_
        dsimp only [pack]
        exact sim_ret (release_plain (by rfl) _)
      · refine sim_call3 he_impl_envelopeOf (snapD_enc _ _) (snapD_int _ _) (snapD_int _ _) (fun c16 => ?_)
        refine sim_hand4 O3 (c16.lowx : Sl Int) (c16.highx : Sl Int) (c16.lowy : Sl Int) (c16.highy : Sl Int) (fun z1 z2 z3 z4 => AV.agg [z1, z2, z3, z4]) (by intro b; simp only [mat_tup, mat_aggD, mat_agg, matLc, matLn, mat_iv, mat_bv, mat_sv, mat_bt, mat_nilS, mat_rS, List.append_nil, List.nil_append, List.length_nil, Nat.add_zero]) (by simp only [noF_tup, noF_aggD, noF_agg, noF_iv, noF_bv, noF_sv, noF_bt, noF_nilS, noF_rS, List.all_cons, List.all_nil, Bool.and_self]) (fun x18 x20 x22 x24 h25 O26 => ?_)
        replace O26 : Hold B h25 [(AV.ptr o1 1 0 0, .pt 4 [nilS, nilS, nilS, nilS]), (x18, obS (c16.lowx : Sl Int)), (x20, obS (c16.highx : Sl Int)), (x22, obS (c16.lowy : Sl Int)), (x24, obS (c16.highy : Sl Int))] := O26
        refine sim_store O26 0 (cs' := [x18, x20, x22, x24]) rfl (by first | rfl | simp [(O26.one (A := Int) (s := c16.lowx) 1 rfl).1, (O26.one (A := Int) (s := c16.lowx) 1 rfl).2, (O26.one (A := Int) (s := c16.highx) 2 rfl).1, (O26.one (A := Int) (s := c16.highx) 2 rfl).2, (O26.one (A := Int) (s := c16.lowy) 3 rfl).1, (O26.one (A := Int) (s := c16.lowy) 3 rfl).2, (O26.one (A := Int) (s := c16.highy) 4 rfl).1, (O26.one (A := Int) (s := c16.highy) 4 rfl).2]) (by simp) (by first | rfl | simp [(O26.one (A := Int) (s := c16.lowx) 1 rfl).1, (O26.one (A := Int) (s := c16.lowx) 1 rfl).2, (O26.one (A := Int) (s := c16.highx) 2 rfl).1, (O26.one (A := Int) (s := c16.highx) 2 rfl).2, (O26.one (A := Int) (s := c16.lowy) 3 rfl).1, (O26.one (A := Int) (s := c16.lowy) 3 rfl).2, (O26.one (A := Int) (s := c16.highy) 4 rfl).1, (O26.one (A := Int) (s := c16.highy) 4 rfl).2]) (by first | rfl | simp [splice, (O26.one (A := Int) (s := c16.lowx) 1 rfl).1, (O26.one (A := Int) (s := c16.lowx) 1 rfl).2, (O26.one (A := Int) (s := c16.highx) 2 rfl).1, (O26.one (A := Int) (s := c16.highx) 2 rfl).2, (O26.one (A := Int) (s := c16.lowy) 3 rfl).1, (O26.one (A := Int) (s := c16.lowy) 3 rfl).2, (O26.one (A := Int) (s := c16.highy) 4 rfl).1, (O26.one (A := Int) (s := c16.highy) 4 rfl).2]) (fun h27 O28 => ?_)
        replace O28 : Hold B h27 [(AV.ptr o1 1 0 0, .pt 4 [x18, x20, x22, x24]), (x18, obS (c16.lowx : Sl Int)), (x20, obS (c16.highx : Sl Int)), (x22, obS (c16.lowy : Sl Int)), (x24, obS (c16.highy : Sl Int))] := O28
        refine sim_retL (resL_c (v := AV.agg [x18, x20, x22, x24]) (O28.ld 0 rfl true 4 0) (resL_v (v := iv 0) (resL_nil _))) ?_
        dsimp only [pack]
        have O29 : Hold B h27 [(x18, obS (c16.lowx : Sl Int)), (x20, obS (c16.highx : Sl Int)), (x22, obS (c16.lowy : Sl Int)), (x24, obS (c16.highy : Sl Int))] := O28.sel [1, 2, 3, 4] (by decide) rfl
        exact sim_ret (release_of (by simp only [ids_tup, ids_aggD, ids_agg, ids_iv, ids_bv, ids_sv, ids_bt, ids_nilS, ids_enc, O29.idsD (A := Int) (s := c16.lowx) 0 rfl, O29.idsD (A := Int) (s := c16.highx) 1 rfl, O29.idsD (A := Int) (s := c16.lowy) 2 rfl, O29.idsD (A := Int) (s := c16.highy) 3 rfl, List.map_append, List.map_nil, List.flatMap_cons, List.flatMap_nil, List.append_nil, List.nil_append]; simpa only [List.flatMap_cons, List.flatMap_nil, List.append_nil, List.nil_append] using O29.nd2) (by simp only [rel_tup, rel_aggD, rel_agg, rel_iv, rel_bv, rel_sv, rel_bt, rel_nilS, rel_enc, O29.relD (A := Int) (s := c16.lowx) 0 rfl, O29.relD (A := Int) (s := c16.highx) 1 rfl, O29.relD (A := Int) (s := c16.lowy) 2 rfl, O29.relD (A := Int) (s := c16.highy) 3 rfl, omapc, omapn, obind_sm] <;> rfl))
theorem tt_impl_EnvelopeOf : PureOK Try.prog n_impl_EnvelopeOf (C3 (fun c : Envelope × Int => AV.tup [AV.agg [rS c.1.lowx, rS c.1.highx, rS c.1.lowy, rS c.1.highy], enc c.2]) t_impl_EnvelopeOf) := pureC3 (Econs tt_impl_ValidSeq (Econs tt_impl_envelopeOf (Econs tt_impl_isBand (Econs ok_impl_within E0)))) mixed hb_impl_EnvelopeOf fun b_ n_ band_ => ts_impl_EnvelopeOf _ (by simp [envL]) (by simp [envL]) (by simp [envL]) (by simp [envL]) b_ n_ band_

def s0_spec_l10Bounds (low_ : Sl Int) (high_ : Sl Int) : Int → Option (Sum Int (Sum Unit Bool)) := fun w7 =>
  bif decide (w7 < (((low_.getD []).length : Nat) : Int)) then
    obind (getI (low_.getD []) w7) fun a17 =>
    obind (getI (high_.getD []) w7) fun a21 =>
    obind (some (within a17 0 a21)) fun c25 =>
    obind (bif !c25 then some false else (obind (getI (high_.getD []) w7) fun a27 => some (decide (255 < a27)))) fun c31 =>
    bif (bif !c25 then true else c31) then
      some (.inr (.inr false))
    else
      some (.inl (wr (w7 + 1)))
  else
    some (.inr (.inl ()))
def t_spec_l10Bounds (low_ : Sl Int) (high_ : Sl Int) : Option Bool :=
  obind (bif !decide ((((low_.getD []).length : Nat) : Int) = (((high_.getD []).length : Nat) : Int)) then some false else (obind (some (within (((low_.getD []).length : Nat) : Int) 1 72)) fun c2 => some (!c2))) fun c3 =>
  bif (bif !decide ((((low_.getD []).length : Nat) : Int) = (((high_.getD []).length : Nat) : Int)) then true else c3) then
    some false
  else
    obind (loopT (s0_spec_l10Bounds low_ high_) 0) fun qq41 => match qq41 with
    | (.inl _) =>
        some true
    | (.inr q14) =>
        some q14

theorem tl0_spec_l10Bounds (env : Nat → Contract) {B : Base} (he_spec_l00In : env n_spec_l00In = .pure (T3 within)) (low_ : Sl Int) (high_ : Sl Int) (c3 : Bool)  {st : Int} {tm : TM} {h : Heap} (R : (fun (st : Int) tm h5 => match st with | w7 => tm = [Sl.enc low_, Sl.enc high_, und, und, AV.top, iv w7, Sl.enc low_, iv (((low_.getD []).length : Nat) : Int), Sl.enc high_, iv (((high_.getD []).length : Nat) : Int), bv (!decide ((((low_.getD []).length : Nat) : Int) = (((high_.getD []).length : Nat) : Int))), bv (!decide ((((low_.getD []).length : Nat) : Int) = (((high_.getD []).length : Nat) : Int))), AV.top, AV.top, AV.top, cond (!decide ((((low_.getD []).length : Nat) : Int) = (((high_.getD []).length : Nat) : Int))) und (bv c3), bv (bif !decide ((((low_.getD []).length : Nat) : Int) = (((high_.getD []).length : Nat) : Int)) then true else c3), AV.top, AV.top, AV.top, AV.top, AV.top, AV.top, AV.top, AV.top, AV.top, AV.top, AV.top, AV.top, AV.top, AV.top, AV.top, AV.top, AV.top, AV.top, AV.top, AV.top, AV.top, AV.top, AV.top] ∧ Hold B h5 []) st tm h) : Sim (loopP hm0_spec_l10Bounds xm0_spec_l10Bounds (lb0_spec_l10Bounds env) tm h) (loopT (s0_spec_l10Bounds low_ high_) st) (fun (q : Sum Unit Bool) (r : Res) => match q with | .inl _ => ∃ (q11 : Int) (z10 : AV) (h8 : Heap), r = (.exit 0, [Sl.enc low_, Sl.enc high_, und, und, z10, iv q11, Sl.enc low_, iv (((low_.getD []).length : Nat) : Int), Sl.enc high_, iv (((high_.getD []).length : Nat) : Int), bv (!decide ((((low_.getD []).length : Nat) : Int) = (((high_.getD []).length : Nat) : Int))), bv (!decide ((((low_.getD []).length : Nat) : Int) = (((high_.getD []).length : Nat) : Int))), AV.top, AV.top, AV.top, cond (!decide ((((low_.getD []).length : Nat) : Int) = (((high_.getD []).length : Nat) : Int))) und (bv c3), bv (bif !decide ((((low_.getD []).length : Nat) : Int) = (((high_.getD []).length : Nat) : Int)) then true else c3), AV.top, AV.top, AV.top, AV.top, AV.top, AV.top, AV.top, AV.top, AV.top, AV.top, AV.top, AV.top, AV.top, AV.top, AV.top, AV.top, AV.top, AV.top, AV.top, AV.top, AV.top, AV.top, AV.top], h8) ∧ Hold B h8 [] | .inr q14 => ∃ (q15 : Int) (h12 : Heap), r = (.ret, [Sl.enc low_, Sl.enc high_, und, und, bv q14, iv q15, Sl.enc low_, iv (((low_.getD []).length : Nat) : Int), Sl.enc high_, iv (((high_.getD []).length : Nat) : Int), bv (!decide ((((low_.getD []).length : Nat) : Int) = (((high_.getD []).length : Nat) : Int))), bv (!decide ((((low_.getD []).length : Nat) : Int) = (((high_.getD []).length : Nat) : Int))), AV.top, AV.top, AV.top, cond (!decide ((((low_.getD []).length : Nat) : Int) = (((high_.getD []).length : Nat) : Int))) und (bv c3), bv (bif !decide ((((low_.getD []).length : Nat) : Int) = (((high_.getD []).length : Nat) : Int)) then true else c3), AV.top, AV.top, AV.top, AV.top, AV.top, AV.top, AV.top, AV.top, AV.top, AV.top, AV.top, AV.top, AV.top, AV.top, AV.top, AV.top, AV.top, AV.top, AV.top, AV.top, AV.top, AV.top, AV.top], h12) ∧ Hold B h12 []) := by
  refine loop_sim (Rel := fun (st : Int) tm h5 => match st with | w7 => tm = [Sl.enc low_, Sl.enc high_, und, und, AV.top, iv w7, Sl.enc low_, iv (((low_.getD []).length : Nat) : Int), Sl.enc high_, iv (((high_.getD []).length : Nat) : Int), bv (!decide ((((low_.getD []).length : Nat) : Int) = (((high_.getD []).length : Nat) : Int))), bv (!decide ((((low_.getD []).length : Nat) : Int) = (((high_.getD []).length : Nat) : Int))), AV.top, AV.top, AV.top, cond (!decide ((((low_.getD []).length : Nat) : Int) = (((high_.getD []).length : Nat) : Int))) und (bv c3), bv (bif !decide ((((low_.getD []).length : Nat) : Int) = (((high_.getD []).length : Nat) : Int)) then true else c3), AV.top, AV.top, AV.top, AV.top, AV.top, AV.top, AV.top, AV.top, AV.top, AV.top, AV.top, AV.top, AV.top, AV.top, AV.top, AV.top, AV.top, AV.top, AV.top, AV.top, AV.top, AV.top, AV.top] ∧ Hold B h5 []) (fun w7 tm h5 R => ?_) R
  obtain ⟨rfl, O6⟩ := R
  rw [e_lb0_spec_l10Bounds]
  unfold s0_spec_l10Bounds
  dsimp only
  refine sim_let (v := iv (((low_.getD []).length : Nat) : Int)) (Tab.enc h5 low_).len ?_
  refine sim_let (v := bv (decide (w7 < (((low_.getD []).length : Nat) : Int)))) (aBin_lss _ _) ?_
  refine sim_cond (fun c16 => ?_) (fun c16 => ?_)
  · refine sim_get (Tab.enc h5 low_) (fun m18 a17 hi19 hm20 => ?_)
    refine sim_let (v := iv a17) ((Tab.enc h5 low_).ld hm20 false 1 0) ?_
    refine sim_get (Tab.enc h5 high_) (fun m22 a21 hi23 hm24 => ?_)
    refine sim_let (v := iv a21) ((Tab.enc h5 high_).ld hm24 false 1 0) ?_
    refine sim_callVQ3 (t := within) he_spec_l00In (snapD_int _ _) (snapD_int _ _) (snapD_int _ _) (fun c25 => ?_)
    refine sim_let (v := bv (!c25)) (aUn_not _) ?_
    refine sim_g5F (e := bv) (fun hb26 => ?_) (fun y32 y33 y34 y35 c31 => ?_)
    · refine sim_o0 ?_
      refine sim_o0 ?_
      refine sim_o1 ?_
      refine sim_get (Tab.enc h5 high_) (fun m28 a27 hi29 hm30 => ?_)
      refine sim_o0 ?_
      refine sim_o1 ?_
      refine sim_let (v := iv a27) ((Tab.enc h5 high_).ld hm30 false 1 0) ?_
      refine sim_o0 ?_
      refine sim_let (v := bv (decide (255 < a27))) (aBin_gtr _ _) ?_
      exact sim_ret rfl
    · refine sim_let (v := bv (bif !c25 then true else c31)) (pick_b' _ _ _) ?_
      refine sim_cond (fun c36 => ?_) (fun c36 => ?_)
      · exact sim_ret ⟨nofun, _, _, rfl, O6⟩
      · refine sim_let (v := iv (wr (w7 + 1))) (aBin_add _ _) ?_
        exact sim_ret ⟨rfl, rfl, O6⟩
  · exact sim_ret ⟨nofun, _, _, _, rfl, O6⟩
theorem ts_spec_l10Bounds (env : Nat → Contract) (he_spec_l00In : env n_spec_l00In = .pure (T3 within)) (low_ : Sl Int) (high_ : Sl Int) : Sim (denFn Try.prog env n_spec_l10Bounds [Sl.enc low_, Sl.enc high_] []) (t_spec_l10Bounds low_ high_) fun c p => release p.2 depth p.1 = some ((fun c : Bool => enc c) c) := by
  have O := Hold.nil []
  generalize hB : (⟨[], []⟩ : Base) = B at O
  clear hB
  rw [e_spec_l10Bounds]
  unfold t_spec_l10Bounds
  refine sim_let (v := iv (((low_.getD []).length : Nat) : Int)) (Tab.enc [] low_).len ?_
  refine sim_let (v := iv (((high_.getD []).length : Nat) : Int)) (Tab.enc [] high_).len ?_
  refine sim_let (v := bv (!decide ((((low_.getD []).length : Nat) : Int) = (((high_.getD []).length : Nat) : Int)))) (aCmp_ne _ _) ?_
  refine sim_guardF (e := bv) (fun hb1 => ?_) (fun c3 => ?_)
  · refine sim_let (v := iv (((low_.getD []).length : Nat) : Int)) (Tab.enc [] low_).len ?_
    refine sim_callV3 (t := within) he_spec_l00In (snapD_int _ _) (snapD_int _ _) (snapD_int _ _) (fun c2 => ?_)
    refine sim_let (v := bv (!c2)) (aUn_not _) ?_
    exact sim_ret rfl
  · refine sim_let (v := bv (bif !decide ((((low_.getD []).length : Nat) : Int) = (((high_.getD []).length : Nat) : Int)) then true else c3)) (pick_b' _ _ _) ?_
    refine sim_cond (fun c4 => ?_) (fun c4 => ?_)
    · exact sim_ret (release_plain (by rfl) _)
    · refine sim_bind ((tl0_spec_l10Bounds env he_spec_l00In low_ high_ c3) ⟨rfl, O⟩) (fun qq41 r hq => ?_)
      rcases qq41 with _ | q14
      · obtain ⟨q11, z10, h8, rfl, O9⟩ := hq
        rw [e_lk0x0_spec_l10Bounds]
        exact sim_ret (release_plain (by rfl) _)
      · obtain ⟨q15, h12, rfl, O13⟩ := hq
        rw [e_lk0r_spec_l10Bounds]
        exact sim_ret (release_plain (by rfl) _)
theorem tt_spec_l10Bounds : PureOK Try.prog n_spec_l10Bounds (C2 (fun c : Bool => enc c) t_spec_l10Bounds) := pureC2 (Econs ok_spec_l00In E0) mixed hb_spec_l10Bounds fun low_ high_ => ts_spec_l10Bounds _ (by simp [envL]) low_ high_

def t_spec_l10Ok (e_ : Envelope) : Option Bool :=
  obind (t_spec_l10Bounds e_.lowx e_.highx) fun c1 =>
  obind (bif c1 then (obind (t_spec_l10Bounds e_.lowy e_.highy) fun c3 => some c3) else some false) fun c4 =>
  obind (bif (bif c1 then c4 else false) then (some (decide ((((e_.lowx.getD []).length : Nat) : Int) = (((e_.lowy.getD []).length : Nat) : Int)))) else some false) fun c14 =>
  some (bif (bif c1 then c4 else false) then c14 else false)
def tp_spec_l10Ok (e_p : Pt Envelope) : Option Bool := obind e_p.get fun e_ => t_spec_l10Ok e_

theorem ts_spec_l10Ok (env : Nat → Contract) (he_spec_l10Bounds : env n_spec_l10Bounds = .pure (C2 (fun c : Bool => enc c) t_spec_l10Bounds)) (e_ : Envelope) {e_p : Pt Envelope} (hp_e_ : e_p.get = some e_) : Sim (denFn Try.prog env n_spec_l10Ok [AV.fptr (Row.w Envelope) (e_p.tab.map Row.cells) e_p.i 0] []) (t_spec_l10Ok e_) fun c p => release p.2 depth p.1 = some ((fun c : Bool => enc c) c) := by
  have O := Hold.nil []
  generalize hB : (⟨[], []⟩ : Base) = B at O
  clear hB
  rw [e_spec_l10Ok]
  unfold t_spec_l10Ok
  refine sim_let (v := AV.fptr (Row.w Envelope) (e_p.tab.map Row.cells) e_p.i 0) rfl ?_
  refine sim_let (v := AV.fptr (Row.w Envelope) (e_p.tab.map Row.cells) e_p.i 0) rfl ?_
  refine sim_let (v := Sl.enc e_.lowx) (ld_pt hp_e_ false 1 0) ?_
  refine sim_let (v := AV.fptr (Row.w Envelope) (e_p.tab.map Row.cells) e_p.i 0) rfl ?_
  refine sim_let (v := AV.fptr (Row.w Envelope) (e_p.tab.map Row.cells) e_p.i 1) rfl ?_
  refine sim_let (v := Sl.enc e_.highx) (ld_pt hp_e_ false 1 1) ?_
  refine sim_callQ2 he_spec_l10Bounds (snapD_enc _ _) (snapD_enc _ _) (fun c1 => ?_)
  refine sim_let2 (hand_plain (by rfl) _ _) ?_
  refine sim_g9T (e := bv) (fun hb2 => ?_) (fun y5 y6 y7 y8 y9 y10 y11 y12 c4 => ?_)
  · refine sim_o0 ?_
    refine sim_o1 ?_
    refine sim_let (v := AV.fptr (Row.w Envelope) (e_p.tab.map Row.cells) e_p.i 0) rfl ?_
    refine sim_o0 ?_
    refine sim_o1 ?_
    refine sim_let (v := AV.fptr (Row.w Envelope) (e_p.tab.map Row.cells) e_p.i 2) rfl ?_
    refine sim_o0 ?_
    refine sim_o1 ?_
    refine sim_let (v := Sl.enc e_.lowy) (ld_pt hp_e_ false 1 2) ?_
    refine sim_o0 ?_
    refine sim_o0 ?_
    refine sim_o1 ?_
    refine sim_let (v := AV.fptr (Row.w Envelope) (e_p.tab.map Row.cells) e_p.i 0) rfl ?_
    refine sim_o0 ?_
    refine sim_o1 ?_
    refine sim_let (v := AV.fptr (Row.w Envelope) (e_p.tab.map Row.cells) e_p.i 3) rfl ?_
    refine sim_o0 ?_
    refine sim_o1 ?_
    refine sim_let (v := Sl.enc e_.highy) (ld_pt hp_e_ false 1 3) ?_
    refine sim_o0 ?_
    refine sim_callQ2 he_spec_l10Bounds (snapD_enc _ _) (snapD_enc _ _) (fun c3 => ?_)
    refine sim_let2 (hand_plain (by rfl) _ _) ?_
    exact sim_ret rfl
  · refine sim_let (v := bv (bif c1 then c4 else false)) (pick_b _ _ _) ?_
    refine sim_g11T (e := bv) (fun hb13 => ?_) (fun y15 y16 y17 y18 y19 y20 y21 y22 y23 y24 c14 => ?_)
    · refine sim_o0 ?_
      refine sim_o1 ?_
      refine sim_let (v := AV.fptr (Row.w Envelope) (e_p.tab.map Row.cells) e_p.i 0) rfl ?_
      refine sim_o0 ?_
      refine sim_o1 ?_
      refine sim_let (v := AV.fptr (Row.w Envelope) (e_p.tab.map Row.cells) e_p.i 0) rfl ?_
      refine sim_o0 ?_
      refine sim_o1 ?_
      refine sim_let (v := Sl.enc e_.lowx) (ld_pt hp_e_ false 1 0) ?_
      refine sim_o0 ?_
      refine sim_o1 ?_
      refine sim_let (v := iv (((e_.lowx.getD []).length : Nat) : Int)) (Tab.enc [] e_.lowx).len ?_
      refine sim_o0 ?_
      refine sim_o0 ?_
      refine sim_o1 ?_
      refine sim_let (v := AV.fptr (Row.w Envelope) (e_p.tab.map Row.cells) e_p.i 0) rfl ?_
      refine sim_o0 ?_
      refine sim_o1 ?_
      refine sim_let (v := AV.fptr (Row.w Envelope) (e_p.tab.map Row.cells) e_p.i 2) rfl ?_
      refine sim_o0 ?_
      refine sim_o1 ?_
      refine sim_let (v := Sl.enc e_.lowy) (ld_pt hp_e_ false 1 2) ?_
      refine sim_o0 ?_
      refine sim_o1 ?_
      refine sim_let (v := iv (((e_.lowy.getD []).length : Nat) : Int)) (Tab.enc [] e_.lowy).len ?_
      refine sim_o0 ?_
      refine sim_let (v := bv (decide ((((e_.lowx.getD []).length : Nat) : Int) = (((e_.lowy.getD []).length : Nat) : Int)))) (aCmp_eq _ _) ?_
      exact sim_ret rfl
    · refine sim_let (v := bv (bif (bif c1 then c4 else false) then c14 else false)) (pick_b _ _ _) ?_
      exact sim_ret (release_plain (by rfl) _)
theorem tt_spec_l10Ok : PureOK Try.prog n_spec_l10Ok (C1 (fun c : Bool => enc c) tp_spec_l10Ok) := pureC1 (Econs tt_spec_l10Bounds E0) mixed hb_spec_l10Ok fun e_p => sim_getP fun e_ hp_e_ => ts_spec_l10Ok _ (by simp [envL]) e_ hp_e_

def t_spec_ValidEnvelope (e_ : Envelope) : Option Bool :=
  obind (t_spec_l10Ok e_) fun c5 =>
  some c5

theorem ts_spec_ValidEnvelope (env : Nat → Contract) (he_spec_l10Ok : env n_spec_l10Ok = .pure (C1 (fun c : Bool => enc c) tp_spec_l10Ok)) (e_ : Envelope) : Sim (denFn Try.prog env n_spec_ValidEnvelope [AV.agg [Sl.enc e_.lowx, Sl.enc e_.highx, Sl.enc e_.lowy, Sl.enc e_.highy]] []) (t_spec_ValidEnvelope e_) fun c p => release p.2 depth p.1 = some ((fun c : Bool => enc c) c) := by
  have O := Hold.nil []
  generalize hB : (⟨[], []⟩ : Base) = B at O
  clear hB
  rw [e_spec_ValidEnvelope]
  unfold t_spec_ValidEnvelope
  refine sim_box O (cs := [Sl.enc e_.lowx, Sl.enc e_.highx, Sl.enc e_.lowy, Sl.enc e_.highy]) (by first | rfl | simp) (fun o1 h2 O3 => ?_)
  replace O3 : Hold B h2 [(AV.ptr o1 1 0 0, .pt 4 [Sl.enc e_.lowx, Sl.enc e_.highx, Sl.enc e_.lowy, Sl.enc e_.highy])] := O3
  refine sim_eqO (y' := tp_spec_l10Ok ⟨[e_], 0⟩) (by simp only [tp_spec_l10Ok, get_pt1, obind_sm]) ?_
  refine sim_call1 he_spec_l10Ok (O3.snapRn 0 rfl e_ rfl rfl) (fun c5 => ?_)
  refine sim_let2 (hand_plain (by rfl) _ _) ?_
  exact sim_ret (release_plain (by rfl) _)
theorem tt_spec_ValidEnvelope : PureOK Try.prog n_spec_ValidEnvelope (C1 (fun c : Bool => enc c) t_spec_ValidEnvelope) := pureC1 (Econs tt_spec_l10Ok E0) mixed hb_spec_ValidEnvelope fun e_ => ts_spec_ValidEnvelope _ (by simp [envL]) e_

def s0_impl_validLimits (low_ : Sl Int) (high_ : Sl Int) : Int → Option (Sum Int (Sum Unit Bool)) := fun w6 =>
  bif decide (w6 < (((low_.getD []).length : Nat) : Int)) then
    obind (getI (low_.getD []) w6) fun a16 =>
    obind (bif decide (a16 < 0) then some false else (obind (getI (low_.getD []) w6) fun a21 => obind (getI (high_.getD []) w6) fun a25 => some (decide (a25 < a21)))) fun c29 =>
    obind (bif (bif decide (a16 < 0) then true else c29) then some false else (obind (getI (high_.getD []) w6) fun a39 => some (decide (255 < a39)))) fun c43 =>
    bif (bif (bif decide (a16 < 0) then true else c29) then true else c43) then
      some (.inr (.inr false))
    else
      some (.inl (wr (w6 + 1)))
  else
    some (.inr (.inl ()))
def t_impl_validLimits (low_ : Sl Int) (high_ : Sl Int) (n_ : Int) : Option Bool :=
  obind (bif !decide ((((low_.getD []).length : Nat) : Int) = n_) then some false else (some (!decide ((((high_.getD []).length : Nat) : Int) = n_)))) fun c2 =>
  bif (bif !decide ((((low_.getD []).length : Nat) : Int) = n_) then true else c2) then
    some false
  else
    obind (loopT (s0_impl_validLimits low_ high_) 0) fun qq53 => match qq53 with
    | (.inl _) =>
        some true
    | (.inr q13) =>
        some q13

theorem tl0_impl_validLimits (env : Nat → Contract) {B : Base}  (low_ : Sl Int) (high_ : Sl Int) (n_ : Int) (c2 : Bool)  {st : Int} {tm : TM} {h : Heap} (R : (fun (st : Int) tm h4 => match st with | w6 => tm = [Sl.enc low_, Sl.enc high_, iv n_, und, und, und, AV.top, AV.top, Sl.enc low_, iv (((low_.getD []).length : Nat) : Int), iv n_, bv (!decide ((((low_.getD []).length : Nat) : Int) = n_)), bv (!decide ((((low_.getD []).length : Nat) : Int) = n_)), AV.top, AV.top, AV.top, cond (!decide ((((low_.getD []).length : Nat) : Int) = n_)) und (bv c2), bv (bif !decide ((((low_.getD []).length : Nat) : Int) = n_) then true else c2), Sl.enc low_, iv (((low_.getD []).length : Nat) : Int), iv w6, AV.top, AV.top, AV.top, AV.top, AV.top, AV.top, AV.top, AV.top, AV.top, AV.top, AV.top, AV.top, AV.top, AV.top, AV.top, AV.top, AV.top, AV.top, AV.top, AV.top, AV.top, AV.top, AV.top, AV.top, AV.top, AV.top] ∧ Hold B h4 []) st tm h) : Sim (loopP hm0_impl_validLimits xm0_impl_validLimits (lb0_impl_validLimits env) tm h) (loopT (s0_impl_validLimits low_ high_) st) (fun (q : Sum Unit Bool) (r : Res) => match q with | .inl _ => ∃ (z9 : AV) (z10 : AV) (h7 : Heap), r = (.exit 0, [Sl.enc low_, Sl.enc high_, iv n_, und, und, und, z9, z10, Sl.enc low_, iv (((low_.getD []).length : Nat) : Int), iv n_, bv (!decide ((((low_.getD []).length : Nat) : Int) = n_)), bv (!decide ((((low_.getD []).length : Nat) : Int) = n_)), AV.top, AV.top, AV.top, cond (!decide ((((low_.getD []).length : Nat) : Int) = n_)) und (bv c2), bv (bif !decide ((((low_.getD []).length : Nat) : Int) = n_) then true else c2), Sl.enc low_, iv (((low_.getD []).length : Nat) : Int), AV.top, AV.top, AV.top, AV.top, AV.top, AV.top, AV.top, AV.top, AV.top, AV.top, AV.top, AV.top, AV.top, AV.top, AV.top, AV.top, AV.top, AV.top, AV.top, AV.top, AV.top, AV.top, AV.top, AV.top, AV.top, AV.top, AV.top], h7) ∧ Hold B h7 [] | .inr q13 => ∃ (q14 : Int) (h11 : Heap), r = (.ret, [Sl.enc low_, Sl.enc high_, iv n_, und, und, und, bv q13, iv q14, Sl.enc low_, iv (((low_.getD []).length : Nat) : Int), iv n_, bv (!decide ((((low_.getD []).length : Nat) : Int) = n_)), bv (!decide ((((low_.getD []).length : Nat) : Int) = n_)), AV.top, AV.top, AV.top, cond (!decide ((((low_.getD []).length : Nat) : Int) = n_)) und (bv c2), bv (bif !decide ((((low_.getD []).length : Nat) : Int) = n_) then true else c2), Sl.enc low_, iv (((low_.getD []).length : Nat) : Int), AV.top, AV.top, AV.top, AV.top, AV.top, AV.top, AV.top, AV.top, AV.top, AV.top, AV.top, AV.top, AV.top, AV.top, AV.top, AV.top, AV.top, AV.top, AV.top, AV.top, AV.top, AV.top, AV.top, AV.top, AV.top, AV.top, AV.top], h11) ∧ Hold B h11 []) := by
  refine loop_sim (Rel := fun (st : Int) tm h4 => match st with | w6 => tm = [Sl.enc low_, Sl.enc high_, iv n_, und, und, und, AV.top, AV.top, Sl.enc low_, iv (((low_.getD []).length : Nat) : Int), iv n_, bv (!decide ((((low_.getD []).length : Nat) : Int) = n_)), bv (!decide ((((low_.getD []).length : Nat) : Int) = n_)), AV.top, AV.top, AV.top, cond (!decide ((((low_.getD []).length : Nat) : Int) = n_)) und (bv c2), bv (bif !decide ((((low_.getD []).length : Nat) : Int) = n_) then true else c2), Sl.enc low_, iv (((low_.getD []).length : Nat) : Int), iv w6, AV.top, AV.top, AV.top, AV.top, AV.top, AV.top, AV.top, AV.top, AV.top, AV.top, AV.top, AV.top, AV.top, AV.top, AV.top, AV.top, AV.top, AV.top, AV.top, AV.top, AV.top, AV.top, AV.top, AV.top, AV.top, AV.top] ∧ Hold B h4 []) (fun w6 tm h4 R => ?_) R
  obtain ⟨rfl, O5⟩ := R
  rw [e_lb0_impl_validLimits]
  unfold s0_impl_validLimits
  dsimp only
  refine sim_let (v := bv (decide (w6 < (((low_.getD []).length : Nat) : Int)))) (aBin_lss _ _) ?_
  refine sim_cond (fun c15 => ?_) (fun c15 => ?_)
  · refine sim_get (Tab.enc h4 low_) (fun m17 a16 hi18 hm19 => ?_)
    refine sim_let (v := iv a16) ((Tab.enc h4 low_).ld hm19 false 1 0) ?_
    refine sim_let (v := bv (decide (a16 < 0))) (aBin_lss _ _) ?_
    refine sim_g9F (e := bv) (fun hb20 => ?_) (fun y30 y31 y32 y33 y34 y35 y36 y37 c29 => ?_)
    · refine sim_o0 ?_
      refine sim_o0 ?_
      refine sim_o1 ?_
      refine sim_get (Tab.enc h4 low_) (fun m22 a21 hi23 hm24 => ?_)
      refine sim_o0 ?_
      refine sim_o1 ?_
      refine sim_let (v := iv a21) ((Tab.enc h4 low_).ld hm24 false 1 0) ?_
      refine sim_o0 ?_
      refine sim_o0 ?_
      refine sim_o0 ?_
      refine sim_o1 ?_
      refine sim_get (Tab.enc h4 high_) (fun m26 a25 hi27 hm28 => ?_)
      refine sim_o0 ?_
      refine sim_o1 ?_
      refine sim_let (v := iv a25) ((Tab.enc h4 high_).ld hm28 false 1 0) ?_
      refine sim_o0 ?_
      refine sim_let (v := bv (decide (a25 < a21))) (aBin_gtr _ _) ?_
      exact sim_ret rfl
    · refine sim_let (v := bv (bif decide (a16 < 0) then true else c29)) (pick_b' _ _ _) ?_
      refine sim_g5F (e := bv) (fun hb38 => ?_) (fun y44 y45 y46 y47 c43 => ?_)
      · refine sim_o0 ?_
        refine sim_o0 ?_
        refine sim_o1 ?_
        refine sim_get (Tab.enc h4 high_) (fun m40 a39 hi41 hm42 => ?_)
        refine sim_o0 ?_
        refine sim_o1 ?_
        refine sim_let (v := iv a39) ((Tab.enc h4 high_).ld hm42 false 1 0) ?_
        refine sim_o0 ?_
        refine sim_let (v := bv (decide (255 < a39))) (aBin_gtr _ _) ?_
        exact sim_ret rfl
      · refine sim_let (v := bv (bif (bif decide (a16 < 0) then true else c29) then true else c43)) (pick_b' _ _ _) ?_
        refine sim_cond (fun c48 => ?_) (fun c48 => ?_)
        · exact sim_ret ⟨nofun, _, _, rfl, O5⟩
        · refine sim_let (v := iv (wr (w6 + 1))) (aBin_add _ _) ?_
          exact sim_ret ⟨rfl, rfl, O5⟩
  · exact sim_ret ⟨nofun, _, _, _, rfl, O5⟩
theorem ts_impl_validLimits (env : Nat → Contract)  (low_ : Sl Int) (high_ : Sl Int) (n_ : Int) : Sim (denFn Try.prog env n_impl_validLimits [Sl.enc low_, Sl.enc high_, iv n_] []) (t_impl_validLimits low_ high_ n_) fun c p => release p.2 depth p.1 = some ((fun c : Bool => enc c) c) := by
  have O := Hold.nil []
  generalize hB : (⟨[], []⟩ : Base) = B at O
  clear hB
  rw [e_impl_validLimits]
  unfold t_impl_validLimits
  refine sim_let (v := iv (((low_.getD []).length : Nat) : Int)) (Tab.enc [] low_).len ?_
  refine sim_let (v := bv (!decide ((((low_.getD []).length : Nat) : Int) = n_))) (aCmp_ne _ _) ?_
  refine sim_guardF (e := bv) (fun hb1 => ?_) (fun c2 => ?_)
  · refine sim_let (v := iv (((high_.getD []).length : Nat) : Int)) (Tab.enc [] high_).len ?_
    refine sim_let (v := bv (!decide ((((high_.getD []).length : Nat) : Int) = n_))) (aCmp_ne _ _) ?_
    exact sim_ret rfl
  · refine sim_let (v := bv (bif !decide ((((low_.getD []).length : Nat) : Int) = n_) then true else c2)) (pick_b' _ _ _) ?_
    refine sim_cond (fun c3 => ?_) (fun c3 => ?_)
    · exact sim_ret (release_plain (by rfl) _)
    · refine sim_let (v := iv (((low_.getD []).length : Nat) : Int)) (Tab.enc [] low_).len ?_
      refine sim_bind ((tl0_impl_validLimits env low_ high_ n_ c2) ⟨rfl, O⟩) (fun qq53 r hq => ?_)
      rcases qq53 with _ | q13
      · obtain ⟨z9, z10, h7, rfl, O8⟩ := hq
        rw [e_lk0x0_impl_validLimits]
        exact sim_ret (release_plain (by rfl) _)
      · obtain ⟨q14, h11, rfl, O12⟩ := hq
        rw [e_lk0r_impl_validLimits]
        exact sim_ret (release_plain (by rfl) _)
theorem tt_impl_validLimits : PureOK Try.prog n_impl_validLimits (C3 (fun c : Bool => enc c) t_impl_validLimits) := pureC3 E0 mixed hb_impl_validLimits fun low_ high_ n_ => ts_impl_validLimits _  low_ high_ n_

def t_impl_ValidEnvelope (e_ : Envelope) : Option Bool :=
  obind (bif decide (1 ≤ (((e_.lowx.getD []).length : Nat) : Int)) then (some (decide ((((e_.lowx.getD []).length : Nat) : Int) ≤ 72))) else some false) fun c6 =>
  obind (bif (bif decide (1 ≤ (((e_.lowx.getD []).length : Nat) : Int)) then c6 else false) then (obind (t_impl_validLimits e_.lowx e_.highx (((e_.lowx.getD []).length : Nat) : Int)) fun c8 => some c8) else some false) fun c9 =>
  obind (bif (bif (bif decide (1 ≤ (((e_.lowx.getD []).length : Nat) : Int)) then c6 else false) then c9 else false) then (obind (t_impl_validLimits e_.lowy e_.highy (((e_.lowx.getD []).length : Nat) : Int)) fun c11 => some c11) else some false) fun c12 =>
  some (bif (bif (bif decide (1 ≤ (((e_.lowx.getD []).length : Nat) : Int)) then c6 else false) then c9 else false) then c12 else false)

theorem ts_impl_ValidEnvelope (env : Nat → Contract) (he_impl_validLimits : env n_impl_validLimits = .pure (C3 (fun c : Bool => enc c) t_impl_validLimits)) (e_ : Envelope) : Sim (denFn Try.prog env n_impl_ValidEnvelope [AV.agg [Sl.enc e_.lowx, Sl.enc e_.highx, Sl.enc e_.lowy, Sl.enc e_.highy]] []) (t_impl_ValidEnvelope e_) fun c p => release p.2 depth p.1 = some ((fun c : Bool => enc c) c) := by
  have O := Hold.nil []
  generalize hB : (⟨[], []⟩ : Base) = B at O
  clear hB
  rw [e_impl_ValidEnvelope]
  unfold t_impl_ValidEnvelope
  refine sim_box O (cs := [Sl.enc e_.lowx, Sl.enc e_.highx, Sl.enc e_.lowy, Sl.enc e_.highy]) (by first | rfl | simp) (fun o1 h2 O3 => ?_)
  replace O3 : Hold B h2 [(AV.ptr o1 1 0 0, .pt 4 [Sl.enc e_.lowx, Sl.enc e_.highx, Sl.enc e_.lowy, Sl.enc e_.highy])] := O3
  refine sim_let (v := AV.ptr o1 1 0 0) rfl ?_
  refine sim_let (v := Sl.enc e_.lowx) (O3.ld 0 rfl false 1 0) ?_
  refine sim_let (v := iv (((e_.lowx.getD []).length : Nat) : Int)) (Tab.enc h2 e_.lowx).len ?_
  refine sim_let (v := bv (decide (1 ≤ (((e_.lowx.getD []).length : Nat) : Int)))) (aBin_geq _ _) ?_
  refine sim_guardT (e := bv) (fun hb5 => ?_) (fun c6 => ?_)
  · refine sim_let (v := bv (decide ((((e_.lowx.getD []).length : Nat) : Int) ≤ 72))) (aBin_leq _ _) ?_
    exact sim_ret rfl
  · refine sim_let (v := bv (bif decide (1 ≤ (((e_.lowx.getD []).length : Nat) : Int)) then c6 else false)) (pick_b _ _ _) ?_
    refine sim_guardT (e := bv) (fun hb7 => ?_) (fun c9 => ?_)
    · refine sim_let (v := AV.ptr o1 1 0 0) rfl ?_
      refine sim_let (v := Sl.enc e_.lowx) (O3.ld 0 rfl false 1 0) ?_
      refine sim_let (v := AV.ptr o1 1 0 1) rfl ?_
      refine sim_let (v := Sl.enc e_.highx) (O3.ld 0 rfl false 1 1) ?_
      refine sim_call3 he_impl_validLimits (snapD_enc _ _) (snapD_enc _ _) (snapD_int _ _) (fun c8 => ?_)
      refine sim_let2 (hand_plain (by rfl) _ _) ?_
      exact sim_ret rfl
    · refine sim_let (v := bv (bif (bif decide (1 ≤ (((e_.lowx.getD []).length : Nat) : Int)) then c6 else false) then c9 else false)) (pick_b _ _ _) ?_
      refine sim_guardT (e := bv) (fun hb10 => ?_) (fun c12 => ?_)
      · refine sim_let (v := AV.ptr o1 1 0 2) rfl ?_
        refine sim_let (v := Sl.enc e_.lowy) (O3.ld 0 rfl false 1 2) ?_
        refine sim_let (v := AV.ptr o1 1 0 3) rfl ?_
        refine sim_let (v := Sl.enc e_.highy) (O3.ld 0 rfl false 1 3) ?_
        refine sim_call3 he_impl_validLimits (snapD_enc _ _) (snapD_enc _ _) (snapD_int _ _) (fun c11 => ?_)
        refine sim_let2 (hand_plain (by rfl) _ _) ?_
        exact sim_ret rfl
      · refine sim_let (v := bv (bif (bif (bif decide (1 ≤ (((e_.lowx.getD []).length : Nat) : Int)) then c6 else false) then c9 else false) then c12 else false)) (pick_b _ _ _) ?_
        exact sim_ret (release_plain (by rfl) _)
theorem tt_impl_ValidEnvelope : PureOK Try.prog n_impl_ValidEnvelope (C1 (fun c : Bool => enc c) t_impl_ValidEnvelope) := pureC1 (Econs tt_impl_validLimits E0) mixed hb_impl_ValidEnvelope fun e_ => ts_impl_ValidEnvelope _ (by simp [envL]) e_

def t_impl_OutsideOf (a_ : Sl Feat) (e_ : Envelope) : Option (Int × Int) :=
  obind (t_impl_ValidSeq a_) fun c5 =>
  obind (bif !c5 then some false else (obind (t_impl_ValidEnvelope e_) fun c7 => some (!c7))) fun c8 =>
  bif (bif !c5 then true else c8) then
    some (0, 1)
  else
    bif !decide ((((a_.getD []).length : Nat) : Int) = (((e_.lowx.getD []).length : Nat) : Int)) then
      some (0, 2)
    else
      obind (t_impl_outsideOf a_ e_) fun c11 =>
      some (c11, 0)

theorem ts_impl_OutsideOf (env : Nat → Contract) (he_impl_ValidEnvelope : env n_impl_ValidEnvelope = .pure (C1 (fun c : Bool => enc c) t_impl_ValidEnvelope)) (he_impl_ValidSeq : env n_impl_ValidSeq = .pure (C1 (fun c : Bool => enc c) t_impl_ValidSeq)) (he_impl_outsideOf : env n_impl_outsideOf = .pure (C2 (fun c : Int => enc c) t_impl_outsideOf)) (a_ : Sl Feat) (e_ : Envelope) : Sim (denFn Try.prog env n_impl_OutsideOf [Sl.enc a_, AV.agg [Sl.enc e_.lowx, Sl.enc e_.highx, Sl.enc e_.lowy, Sl.enc e_.highy]] []) (t_impl_OutsideOf a_ e_) fun c p => release p.2 depth p.1 = some ((fun c : Int × Int => AV.tup [enc c.1, enc c.2]) c) := by
  have O := Hold.nil []
  generalize hB : (⟨[], []⟩ : Base) = B at O
  clear hB
  rw [e_impl_OutsideOf]
  unfold t_impl_OutsideOf
  refine sim_box O (cs := [Sl.enc e_.lowx, Sl.enc e_.highx, Sl.enc e_.lowy, Sl.enc e_.highy]) (by first | rfl | simp) (fun o1 h2 O3 => ?_)
  replace O3 : Hold B h2 [(AV.ptr o1 1 0 0, .pt 4 [Sl.enc e_.lowx, Sl.enc e_.highx, Sl.enc e_.lowy, Sl.enc e_.highy])] := O3
  refine sim_call1 he_impl_ValidSeq (snapD_enc _ _) (fun c5 => ?_)
  refine sim_let2 (hand_plain (by rfl) _ _) ?_
  refine sim_let (v := bv (!c5)) (aUn_not _) ?_
  refine sim_guardF (e := bv) (fun hb6 => ?_) (fun c8 => ?_)
  · refine sim_let (v := AV.agg [Sl.enc e_.lowx, Sl.enc e_.highx, Sl.enc e_.lowy, Sl.enc e_.highy]) (O3.ld 0 rfl true 4 0) ?_
    refine sim_call1 he_impl_ValidEnvelope (snapD_nr _ e_ rfl) (fun c7 => ?_)
    refine sim_let2 (hand_plain (by rfl) _ _) ?_
    refine sim_let (v := bv (!c7)) (aUn_not _) ?_
    exact sim_ret rfl
  · refine sim_let (v := bv (bif !c5 then true else c8)) (pick_b' _ _ _) ?_
    refine sim_cond (fun c9 => ?_) (fun c9 => ?_)
    · exact sim_ret (release_plain (by rfl) _)
    · refine sim_let (v := iv (((a_.getD []).length : Nat) : Int)) (Tab.enc h2 a_).len ?_
      refine sim_let (v := AV.ptr o1 1 0 0) rfl ?_
      refine sim_let (v := Sl.enc e_.lowx) (O3.ld 0 rfl false 1 0) ?_
      refine sim_let (v := iv (((e_.lowx.getD []).length : Nat) : Int)) (Tab.enc h2 e_.lowx).len ?_
      refine sim_let (v := bv (!decide ((((a_.getD []).length : Nat) : Int) = (((e_.lowx.getD []).length : Nat) : Int)))) (aCmp_ne _ _) ?_
      refine sim_cond (fun c10 => ?_) (fun c10 => ?_)
      · exact sim_ret (release_plain (by rfl) _)
      · refine sim_let (v := AV.agg [Sl.enc e_.lowx, Sl.enc e_.highx, Sl.enc e_.lowy, Sl.enc e_.highy]) (O3.ld 0 rfl true 4 0) ?_
        refine sim_call2 he_impl_outsideOf (snapD_enc _ _) (snapD_nr _ e_ rfl) (fun c11 => ?_)
        refine sim_let2 (hand_plain (by rfl) _ _) ?_
        exact sim_ret (release_plain (by rfl) _)
theorem tt_impl_OutsideOf : PureOK Try.prog n_impl_OutsideOf (C2 (fun c : Int × Int => AV.tup [enc c.1, enc c.2]) t_impl_OutsideOf) := pureC2 (Econs tt_impl_ValidEnvelope (Econs tt_impl_ValidSeq (Econs tt_impl_outsideOf E0))) mixed hb_impl_OutsideOf fun a_ e_ => ts_impl_OutsideOf _ (by simp [envL]) (by simp [envL]) (by simp [envL]) a_ e_

def t_laws_FnBounds (code_ : Sl UInt8) : Option Bool :=
  obind (t_laws_a2Long code_ (none : Sl UInt8)) fun c1 =>
  bif c1 then
    some true
  else
    obind (t_spec_A2Two code_) fun c3 =>
    obind (t_impl_LowerBound c3.1 c3.2.1 c3.2.2) fun c10 =>
    obind (t_spec_Elastic c3.1 c3.2.1 c3.2.2) fun c11 =>
    obind (t_impl_EndsBound c3.1 c3.2.1) fun c12 =>
    obind (bif !decide (c10.2 = 0) then some false else (some (!decide (c11.2 = 0)))) fun c14 =>
    obind (bif (bif !decide (c10.2 = 0) then true else c14) then some false else (some (!decide (c12.2 = 0)))) fun c16 =>
    obind (bif (bif (bif !decide (c10.2 = 0) then true else c14) then true else c16) then some false else (some (decide (c11.1 < c10.1)))) fun c18 =>
    obind (bif (bif (bif (bif !decide (c10.2 = 0) then true else c14) then true else c16) then true else c18) then some false else (some (decide (c10.1 < c12.1)))) fun c20 =>
    obind (bif (bif (bif (bif (bif !decide (c10.2 = 0) then true else c14) then true else c16) then true else c18) then true else c20) then some false else (some (decide (c12.1 < 0)))) fun c22 =>
    bif (bif (bif (bif (bif (bif !decide (c10.2 = 0) then true else c14) then true else c16) then true else c18) then true else c20) then true else c22) then
      some false
    else
      obind (t_impl_EnvelopeOf c3.2.1 (((c3.2.1.getD []).length : Nat) : Int) c3.2.2) fun c24 =>
      obind (bif !decide (c24.2 = 0) then some false else (obind (t_spec_ValidEnvelope c24.1) fun c42 => some (!c42))) fun c43 =>
      bif (bif !decide (c24.2 = 0) then true else c43) then
        some false
      else
        obind (t_impl_OutsideOf c3.2.1 c24.1) fun c45 =>
        obind (bif decide (c45.2 = 0) then (some (decide (c45.1 = 0))) else some false) fun c47 =>
        some (bif decide (c45.2 = 0) then c47 else false)

theorem ts_laws_FnBounds (env : Nat → Contract) (he_impl_EndsBound : env n_impl_EndsBound = .pure (C2 (fun c : Int × Int => AV.tup [enc c.1, enc c.2]) t_impl_EndsBound)) (he_impl_EnvelopeOf : env n_impl_EnvelopeOf = .pure (C3 (fun c : Envelope × Int => AV.tup [AV.agg [rS c.1.lowx, rS c.1.highx, rS c.1.lowy, rS c.1.highy], enc c.2]) t_impl_EnvelopeOf)) (he_impl_LowerBound : env n_impl_LowerBound = .pure (C3 (fun c : Int × Int => AV.tup [enc c.1, enc c.2]) t_impl_LowerBound)) (he_impl_OutsideOf : env n_impl_OutsideOf = .pure (C2 (fun c : Int × Int => AV.tup [enc c.1, enc c.2]) t_impl_OutsideOf)) (he_laws_a2Long : env n_laws_a2Long = .pure (C2 (fun c : Bool => enc c) t_laws_a2Long)) (he_spec_A2Two : env n_spec_A2Two = .pure (C1 (fun c : (Sl Feat) × (Sl Feat) × Int => AV.tup [rS c.1, rS c.2.1, enc c.2.2]) t_spec_A2Two)) (he_spec_Elastic : env n_spec_Elastic = .pure (C3 (fun c : Int × Int => AV.tup [enc c.1, enc c.2]) t_spec_Elastic)) (he_spec_ValidEnvelope : env n_spec_ValidEnvelope = .pure (C1 (fun c : Bool => enc c) t_spec_ValidEnvelope)) (code_ : Sl UInt8) : Sim (denFn Try.prog env n_laws_FnBounds [Sl.enc code_] []) (t_laws_FnBounds code_) fun c p => release p.2 depth p.1 = some ((fun c : Bool => enc c) c) := by
  have O := Hold.nil []
  generalize hB : (⟨[], []⟩ : Base) = B at O
  clear hB
  rw [e_laws_FnBounds]
  unfold t_laws_FnBounds
  refine sim_call2 he_laws_a2Long (snapD_enc _ _) (snapD_nil _) (fun c1 => ?_)
  refine sim_let2 (hand_plain (by rfl) _ _) ?_
  refine sim_cond (fun c2 => ?_) (fun c2 => ?_)
  · exact sim_ret (release_plain (by rfl) _)
  · refine sim_call1 he_spec_A2Two (snapD_enc _ _) (fun c3 => ?_)
    refine sim_hand2 O (c3.1 : Sl Feat) (c3.2.1 : Sl Feat) (fun z1 z2 => AV.tup [z1, z2, iv c3.2.2]) (by intro b; simp only [mat_tup, mat_aggD, mat_agg, matLc, matLn, mat_iv, mat_bv, mat_sv, mat_bt, mat_nilS, mat_rS, List.append_nil, List.nil_append, List.length_nil, Nat.add_zero]) (by simp only [noF_tup, noF_aggD, noF_agg, noF_iv, noF_bv, noF_sv, noF_bt, noF_nilS, noF_rS, List.all_cons, List.all_nil, Bool.and_self]) (fun x5 x7 h8 O9 => ?_)
    replace O9 : Hold B h8 [(x5, obS (c3.1 : Sl Feat)), (x7, obS (c3.2.1 : Sl Feat))] := O9
    refine sim_let (v := x5) rfl ?_
    refine sim_let (v := x7) rfl ?_
    refine sim_let (v := iv c3.2.2) rfl ?_
    refine sim_call3 he_impl_LowerBound ((O9.tab (A := Feat) (s := c3.1) 0 rfl).snap) ((O9.tab (A := Feat) (s := c3.2.1) 1 rfl).snap) (snapD_int _ _) (fun c10 => ?_)
    refine sim_let2 (hand_plain (by rfl) _ _) ?_
    refine sim_let (v := iv c10.1) rfl ?_
    refine sim_let (v := iv c10.2) rfl ?_
    refine sim_call3 he_spec_Elastic ((O9.tab (A := Feat) (s := c3.1) 0 rfl).snap) ((O9.tab (A := Feat) (s := c3.2.1) 1 rfl).snap) (snapD_int _ _) (fun c11 => ?_)
    refine sim_let2 (hand_plain (by rfl) _ _) ?_
    refine sim_let (v := iv c11.1) rfl ?_
    refine sim_let (v := iv c11.2) rfl ?_
    refine sim_call2 he_impl_EndsBound ((O9.tab (A := Feat) (s := c3.1) 0 rfl).snap) ((O9.tab (A := Feat) (s := c3.2.1) 1 rfl).snap) (fun c12 => ?_)
    refine sim_let2 (hand_plain (by rfl) _ _) ?_
    refine sim_let (v := iv c12.1) rfl ?_
    refine sim_let (v := iv c12.2) rfl ?_
    refine sim_let (v := bv (!decide (c10.2 = 0))) (aCmp_ne _ _) ?_
    refine sim_guardF (e := bv) (fun hb13 => ?_) (fun c14 => ?_)
    · refine sim_let (v := bv (!decide (c11.2 = 0))) (aCmp_ne _ _) ?_
      exact sim_ret rfl
    · refine sim_let (v := bv (bif !decide (c10.2 = 0) then true else c14)) (pick_b' _ _ _) ?_
      refine sim_guardF (e := bv) (fun hb15 => ?_) (fun c16 => ?_)
      · refine sim_let (v := bv (!decide (c12.2 = 0))) (aCmp_ne _ _) ?_
        exact sim_ret rfl
      · refine sim_let (v := bv (bif (bif !decide (c10.2 = 0) then true else c14) then true else c16)) (pick_b' _ _ _) ?_
        refine sim_guardF (e := bv) (fun hb17 => ?_) (fun c18 => ?_)
        · refine sim_let (v := bv (decide (c11.1 < c10.1))) (aBin_gtr _ _) ?_
          exact sim_ret rfl
        · refine sim_let (v := bv (bif (bif (bif !decide (c10.2 = 0) then true else c14) then true else c16) then true else c18)) (pick_b' _ _ _) ?_
          refine sim_guardF (e := bv) (fun hb19 => ?_) (fun c20 => ?_)
          · refine sim_let (v := bv (decide (c10.1 < c12.1))) (aBin_gtr _ _) ?_
            exact sim_ret rfl
          · refine sim_let (v := bv (bif (bif (bif (bif !decide (c10.2 = 0) then true else c14) then true else c16) then true else c18) then true else c20)) (pick_b' _ _ _) ?_
            refine sim_guardF (e := bv) (fun hb21 => ?_) (fun c22 => ?_)
            · refine sim_let (v := bv (decide (c12.1 < 0))) (aBin_lss _ _) ?_
              exact sim_ret rfl
            · refine sim_let (v := bv (bif (bif (bif (bif (bif !decide (c10.2 = 0) then true else c14) then true else c16) then true else c18) then true else c20) then true else c22)) (pick_b' _ _ _) ?_
              refine sim_cond (fun c23 => ?_) (fun c23 => ?_)
              · exact sim_ret (release_plain (by rfl) _)
              · refine sim_let (v := iv (((c3.2.1.getD []).length : Nat) : Int)) (O9.tab (A := Feat) (s := c3.2.1) 1 rfl).len ?_
                refine sim_call3 he_impl_EnvelopeOf ((O9.tab (A := Feat) (s := c3.2.1) 1 rfl).snap) (snapD_int _ _) (snapD_int _ _) (fun c24 => ?_)
                refine sim_hand4 O9 (c24.1.lowx : Sl Int) (c24.1.highx : Sl Int) (c24.1.lowy : Sl Int) (c24.1.highy : Sl Int) (fun z1 z2 z3 z4 => AV.tup [AV.agg [z1, z2, z3, z4], iv c24.2]) (by intro b; simp only [mat_tup, mat_aggD, mat_agg, matLc, matLn, mat_iv, mat_bv, mat_sv, mat_bt, mat_nilS, mat_rS, List.append_nil, List.nil_append, List.length_nil, Nat.add_zero]) (by simp only [noF_tup, noF_aggD, noF_agg, noF_iv, noF_bv, noF_sv, noF_bt, noF_nilS, noF_rS, List.all_cons, List.all_nil, Bool.and_self]) (fun x26 x28 x30 x32 h33 O34 => ?_)
                replace O34 : Hold B h33 [(x5, obS (c3.1 : Sl Feat)), (x7, obS (c3.2.1 : Sl Feat)), (x26, obS (c24.1.lowx : Sl Int)), (x28, obS (c24.1.highx : Sl Int)), (x30, obS (c24.1.lowy : Sl Int)), (x32, obS (c24.1.highy : Sl Int))] := O34
                refine sim_let (v := AV.agg [x26, x28, x30, x32]) rfl ?_
                refine sim_let (v := iv c24.2) rfl ?_
                refine sim_box O34 (cs := [nilS, nilS, nilS, nilS]) (by first | rfl | simp) (fun o35 h36 O37 => ?_)
                replace O37 : Hold B h36 [(x5, obS (c3.1 : Sl Feat)), (x7, obS (c3.2.1 : Sl Feat)), (x26, obS (c24.1.lowx : Sl Int)), (x28, obS (c24.1.highx : Sl Int)), (x30, obS (c24.1.lowy : Sl Int)), (x32, obS (c24.1.highy : Sl Int)), (AV.ptr o35 1 0 0, .pt 4 [nilS, nilS, nilS, nilS])] := O37
                refine sim_store O37 6 (cs' := [x26, x28, x30, x32]) rfl (by first | rfl | simp [(O37.one (A := Int) (s := c24.1.lowx) 2 rfl).1, (O37.one (A := Int) (s := c24.1.lowx) 2 rfl).2, (O37.one (A := Int) (s := c24.1.highx) 3 rfl).1, (O37.one (A := Int) (s := c24.1.highx) 3 rfl).2, (O37.one (A := Int) (s := c24.1.lowy) 4 rfl).1, (O37.one (A := Int) (s := c24.1.lowy) 4 rfl).2, (O37.one (A := Int) (s := c24.1.highy) 5 rfl).1, (O37.one (A := Int) (s := c24.1.highy) 5 rfl).2]) (by simp) (by first | rfl | simp [(O37.one (A := Int) (s := c24.1.lowx) 2 rfl).1, (O37.one (A := Int) (s := c24.1.lowx) 2 rfl).2, (O37.one (A := Int) (s := c24.1.highx) 3 rfl).1, (O37.one (A := Int) (s := c24.1.highx) 3 rfl).2, (O37.one (A := Int) (s := c24.1.lowy) 4 rfl).1, (O37.one (A := Int) (s := c24.1.lowy) 4 rfl).2, (O37.one (A := Int) (s := c24.1.highy) 5 rfl).1, (O37.one (A := Int) (s := c24.1.highy) 5 rfl).2]) (by first | rfl | simp [splice, (O37.one (A := Int) (s := c24.1.lowx) 2 rfl).1, (O37.one (A := Int) (s := c24.1.lowx) 2 rfl).2, (O37.one (A := Int) (s := c24.1.highx) 3 rfl).1, (O37.one (A := Int) (s := c24.1.highx) 3 rfl).2, (O37.one (A := Int) (s := c24.1.lowy) 4 rfl).1, (O37.one (A := Int) (s := c24.1.lowy) 4 rfl).2, (O37.one (A := Int) (s := c24.1.highy) 5 rfl).1, (O37.one (A := Int) (s := c24.1.highy) 5 rfl).2]) (fun h39 O40 => ?_)
                replace O40 : Hold B h39 [(x5, obS (c3.1 : Sl Feat)), (x7, obS (c3.2.1 : Sl Feat)), (x26, obS (c24.1.lowx : Sl Int)), (x28, obS (c24.1.highx : Sl Int)), (x30, obS (c24.1.lowy : Sl Int)), (x32, obS (c24.1.highy : Sl Int)), (AV.ptr o35 1 0 0, .pt 4 [x26, x28, x30, x32])] := O40
                refine sim_let (v := bv (!decide (c24.2 = 0))) (aCmp_ne _ _) ?_
                refine sim_guardF (e := bv) (fun hb41 => ?_) (fun c43 => ?_)
                · refine sim_let (v := AV.agg [x26, x28, x30, x32]) (O40.ld 6 rfl true 4 0) ?_
                  refine sim_call1 he_spec_ValidEnvelope (snapD_own h39 c24.1 rfl (by simp [omap, O40.snap7 (A := Int) (s := c24.1.lowx) 2 rfl, O40.snap7 (A := Int) (s := c24.1.highx) 3 rfl, O40.snap7 (A := Int) (s := c24.1.lowy) 4 rfl, O40.snap7 (A := Int) (s := c24.1.highy) 5 rfl])) (fun c42 => ?_)
                  refine sim_let2 (hand_plain (by rfl) _ _) ?_
                  refine sim_let (v := bv (!c42)) (aUn_not _) ?_
                  exact sim_ret rfl
                · refine sim_let (v := bv (bif !decide (c24.2 = 0) then true else c43)) (pick_b' _ _ _) ?_
                  refine sim_cond (fun c44 => ?_) (fun c44 => ?_)
                  · exact sim_ret (release_plain (by rfl) _)
                  · refine sim_let (v := AV.agg [x26, x28, x30, x32]) (O40.ld 6 rfl true 4 0) ?_
                    refine sim_call2 he_impl_OutsideOf ((O40.tab (A := Feat) (s := c3.2.1) 1 rfl).snap) (snapD_own h39 c24.1 rfl (by simp [omap, O40.snap7 (A := Int) (s := c24.1.lowx) 2 rfl, O40.snap7 (A := Int) (s := c24.1.highx) 3 rfl, O40.snap7 (A := Int) (s := c24.1.lowy) 4 rfl, O40.snap7 (A := Int) (s := c24.1.highy) 5 rfl])) (fun c45 => ?_)
                    refine sim_let2 (hand_plain (by rfl) _ _) ?_
                    refine sim_let (v := iv c45.1) rfl ?_
                    refine sim_let (v := iv c45.2) rfl ?_
                    refine sim_let (v := bv (decide (c45.2 = 0))) (aCmp_eq _ _) ?_
                    refine sim_guardT (e := bv) (fun hb46 => ?_) (fun c47 => ?_)
                    · refine sim_let (v := bv (decide (c45.1 = 0))) (aCmp_eq _ _) ?_
                      exact sim_ret rfl
                    · refine sim_let (v := bv (bif decide (c45.2 = 0) then c47 else false)) (pick_b _ _ _) ?_
                      exact sim_ret (release_plain (by rfl) _)
theorem tt_laws_FnBounds : PureOK Try.prog n_laws_FnBounds (C1 (fun c : Bool => enc c) t_laws_FnBounds) := pureC1 (Econs tt_impl_EndsBound (Econs tt_impl_EnvelopeOf (Econs tt_impl_LowerBound (Econs tt_impl_OutsideOf (Econs tt_laws_a2Long (Econs tt_spec_A2Two (Econs tt_spec_Elastic (Econs tt_spec_ValidEnvelope E0)))))))) mixed hb_laws_FnBounds fun code_ => ts_laws_FnBounds _ (by simp [envL]) (by simp [envL]) (by simp [envL]) (by simp [envL]) (by simp [envL]) (by simp [envL]) (by simp [envL]) (by simp [envL]) code_

/-- The source has been read up to `k` at most. -/
structure SK (s : l00Src) (k : Int) : Prop where
  lo : 0 ≤ s.pos
  hi : s.pos ≤ k

theorem SK.mono {s : l00Src} {k k' : Int} (h : SK s k) (hk : k ≤ k') : SK s k' := ⟨h.lo, by have := h.hi; omega⟩

theorem and255 (a : Int) : 0 ≤ wr (IntKind.u64.wrap ((BitVec.ofInt 64 a &&& BitVec.ofInt 64 255).toNat : Nat)) ∧ wr (IntKind.u64.wrap ((BitVec.ofInt 64 a &&& BitVec.ofInt 64 255).toNat : Nat)) ≤ 255 := by
  have h1 : (BitVec.ofInt 64 a &&& BitVec.ofInt 64 255).toNat ≤ 255 := by
    rw [BitVec.toNat_and]
    have : (BitVec.ofInt 64 255).toNat = 255 := by decide
    rw [this]
    exact Nat.and_le_right
  generalize (BitVec.ofInt 64 a &&& BitVec.ofInt 64 255).toNat = r at h1
  have h2 : IntKind.u64.wrap (r : Int) = r := by
    simp only [IntKind.wrap, IntKind.bits, IntKind.signed]
    simp only [Bool.false_and, Bool.false_eq_true, if_false]
    omega
  rw [h2, wr_id (by omega) (by omega)]
  omega

theorem getI_in {A : Type} {l : List A} {i : Int} (h0 : 0 ≤ i) (h1 : i < (l.length : Nat)) : ∃ a, getI l i = some a ∧ l[i.toNat]? = some a := by
  obtain ⟨m, rfl⟩ := Int.eq_ofNat_of_zero_le h0
  have h2 : m < l.length := by omega
  exact ⟨l[m], getI_nat (List.getElem?_eq_getElem h2), by simp [h2]⟩

theorem remI_pos {a b : Int} (ha : 0 ≤ a) (hb : 0 < b) : ∃ r, remI a b = some r ∧ 0 ≤ r ∧ r < b := by
  refine ⟨a.tmod b, ?_, Int.tmod_nonneg b ha, Int.tmod_lt_of_pos a hb⟩
  have : ¬ b = 0 := by omega
  simp [remI, this]

theorem dr_next {s : l00Src} {k : Int} (h : SK s k) (hk : k ≤ 1000000000000) : ∃ r s', t_spec_l00Src_next s = some (r, s') ∧ SK s' (k + 1) ∧ 0 ≤ r ∧ r ≤ 255 := by
  obtain ⟨h1, h2⟩ := h
  have w : wr (s.pos + 1) = s.pos + 1 := wr_id (by omega) (by omega)
  have b1 := fun a => (and255 a).1
  have b2 := fun a => (and255 a).2
  unfold t_spec_l00Src_next
  rw [w]
  by_cases c : s.pos < ((s.code.getD []).length : Nat)
  · obtain ⟨a, ha, _⟩ := getI_in h1 c
    have c2 : s.pos + 1 ≤ ((s.code.getD []).length : Nat) := by omega
    have := a.toNat_lt
    simp only [c, decide_true, cond_true, ha, obind_sm, c2]
    exact ⟨_, _, rfl, ⟨by simp only; omega, by simp only; omega⟩, by omega, by omega⟩
  · have c2 : ¬ s.pos + 1 ≤ ((s.code.getD []).length : Nat) := by omega
    simp only [c, decide_false, cond_false, c2]
    exact ⟨_, _, rfl, ⟨by simp only; omega, by simp only; omega⟩, b1 _, b2 _⟩

theorem dr_pick {s : l00Src} {k : Int} (h : SK s k) (hk : k ≤ 100000000000) {n : Int} (hn : n ≤ 60000) : ∃ r s', t_spec_l00Src_pick s n = some (r, s') ∧ SK s' (k + 2) ∧ 0 ≤ r ∧ (1 ≤ n → r < n) ∧ (n ≤ 1 → r = 0) := by
  unfold t_spec_l00Src_pick
  by_cases c : n ≤ 1
  · simp only [c, decide_true, cond_true]
    exact ⟨0, _, rfl, ⟨h.lo, by have := h.hi; simp only; omega⟩, by omega, fun _ => by omega, fun _ => rfl⟩
  · obtain ⟨r1, s1, e1, k1, p1, q1⟩ := dr_next h (by omega)
    simp only [c, decide_false, cond_false]
    have e1' : t_spec_l00Src_next ⟨s.code, s.pos, s.seed⟩ = some (r1, s1) := e1
    rw [e1', obind_sm]
    by_cases c2 : 200 < n
    · obtain ⟨r2, s2, e2, k2, p2, q2⟩ := dr_next k1 (by omega)
      have e2' : t_spec_l00Src_next ⟨s1.code, s1.pos, s1.seed⟩ = some (r2, s2) := e2
      have w1 : wr (r1 * 256) = r1 * 256 := wr_id (by omega) (by omega)
      have w2 : wr (r1 * 256 + r2) = r1 * 256 + r2 := wr_id (by omega) (by omega)
      obtain ⟨q, e3, p3, q3⟩ := remI_pos (a := r1 * 256 + r2) (b := n) (by omega) (by omega)
      simp only [c2, decide_true, cond_true, e2', obind_sm, w1, w2, e3]
      exact ⟨_, _, rfl, ⟨k2.lo, by have := k2.hi; simp only; omega⟩, p3, fun _ => q3, fun h => False.elim h⟩
    · obtain ⟨q, e3, p3, q3⟩ := remI_pos (a := r1) (b := n) (by omega) (by omega)
      simp only [c2, decide_false, cond_false, e3, obind_sm]
      exact ⟨_, _, rfl, ⟨k1.lo, by have := k1.hi; simp only; omega⟩, p3, fun _ => q3, fun h => False.elim h⟩

theorem dr_one {s : l00Src} {k : Int} (h : SK s k) (hk : k ≤ 100000000000) {n : Int} (hn : n ≤ 60000) : ∃ b s', t_spec_l00Src_one s n = some (b, s') ∧ SK s' (k + 2) := by
  obtain ⟨r, s', e, k', _⟩ := dr_pick h hk hn
  have e' : t_spec_l00Src_pick ⟨s.code, s.pos, s.seed⟩ n = some (r, s') := e
  unfold t_spec_l00Src_one
  simp only [e', obind_sm]
  exact ⟨_, _, rfl, k'⟩

/-- A feature that is one. -/
structure FOK (f : Feat) : Prop where
  x0 : 0 ≤ f.x
  x1 : f.x ≤ 255
  y0 : 0 ≤ f.y
  y1 : f.y ≤ 255
  d0 : 0 ≤ f.d
  d1 : f.d ≤ 7

theorem clip_ok {x : Int} (h : -1000 ≤ x) (h' : x ≤ 1000) : 0 ≤ max (0 : Int) (min 255 x) ∧ max (0 : Int) (min 255 x) ≤ 255 := by omega

theorem dr_feats {s : l00Src} {k : Int} (h : SK s k) (hk : k ≤ 1000000) {most : Int} (h1 : 1 ≤ most) (h2 : most ≤ 100) : ∃ l s', t_spec_l09Draw s most = some (some l, s') ∧ SK s' (k + 1000) ∧ 1 ≤ l.length ∧ (l.length : Int) ≤ most ∧ ∀ f ∈ l, FOK f := by
  obtain ⟨r1, s1, e1, k1, p1, q1, _⟩ := dr_pick h (by omega) (n := 256) (by omega)
  obtain ⟨r2, s2, e2, k2, p2, q2, _⟩ := dr_pick k1 (by omega) (n := 256) (by omega)
  obtain ⟨r3, s3, e3, k3, p3, q3, _⟩ := dr_pick k2 (by omega) (n := most) (by omega)
  have q1' := q1 (by omega)
  have q2' := q2 (by omega)
  have q3' := q3 h1
  have w1 : wr (1 + r3) = 1 + r3 := wr_id (by omega) (by omega)
  obtain ⟨N, hN⟩ := Int.eq_ofNat_of_zero_le (a := 1 + r3) (by omega)
  unfold t_spec_l09Draw
  simp only [e1, e2, e3, obind_sm, w1]
  obtain ⟨⟨c1, c2, c3, c4⟩, f1, l, f2, f3, f4, f5⟩ := loopT_ex (step := s0_spec_l09Draw) (fun i (t : (Sl UInt8) × Int × Int × (Sl Feat) × Int × Int × Int) => SK ⟨t.1, t.2.1, t.2.2.1⟩ (k + 6 + 6 * i) ∧ (∃ l, t.2.2.2.1 = some l ∧ l.length = i ∧ ∀ f ∈ l, FOK f) ∧ (0 ≤ t.2.2.2.2.1 ∧ t.2.2.2.2.1 ≤ 255) ∧ (0 ≤ t.2.2.2.2.2.1 ∧ t.2.2.2.2.2.1 ≤ 255) ∧ t.2.2.2.2.2.2 = N - (i : Int))
    N (fun r => ∃ l, r.2.2.2 = some l ∧ l.length = N ∧ (∀ f ∈ l, FOK f) ∧ SK ⟨r.1, r.2.1, r.2.2.1⟩ (k + 6 + 6 * N))
    (fun i ⟨t1, t2, t3, t4, t5, t6, t7⟩ hi ⟨g1, ⟨l, g2, g3, g4⟩, g5, g6, g7⟩ => by
      simp only at g1 g2 g3 g4 g5 g6 g7
      subst g2
      obtain ⟨r4, s4, e4, k4, p4, q4, _⟩ := dr_pick g1 (by omega) (n := 8) (by omega)
      obtain ⟨r5, s5, e5, k5, p5, q5, _⟩ := dr_pick k4 (by omega) (n := 61) (by omega)
      obtain ⟨r6, s6, e6, k6, p6, q6, _⟩ := dr_pick k5 (by omega) (n := 61) (by omega)
      have q4' := q4 (by omega)
      have q5' := q5 (by omega)
      have q6' := q6 (by omega)
      have a1 : wr (t5 + r5) = t5 + r5 := wr_id (by omega) (by omega)
      have a2 : wr (t5 + r5 - 30) = t5 + r5 - 30 := wr_id (by omega) (by omega)
      have a3 : wr (t6 + r6) = t6 + r6 := wr_id (by omega) (by omega)
      have a4 : wr (t6 + r6 - 30) = t6 + r6 - 30 := wr_id (by omega) (by omega)
      have a5 : wr (t7 - 1) = t7 - 1 := wr_id (by omega) (by omega)
      have c : 0 < t7 := by omega
      have ap := appO_some (s := some l) (l := [(⟨t5, t6, r4⟩ : Feat)]) (by simp; omega)
      have e : s0_spec_l09Draw (t1, t2, t3, some l, t5, t6, t7) = some (.inl (s6.code, s6.pos, s6.seed, some (l ++ [⟨t5, t6, r4⟩]), max 0 (min 255 (t5 + r5 - 30)), max 0 (min 255 (t6 + r6 - 30)), t7 - 1)) := by
        unfold s0_spec_l09Draw
        simp only [c, decide_true, cond_true, e4, e5, e6, obind_sm, ap, a1, a2, a3, a4, a5]
        rfl
      refine .inl ⟨_, e, k6.mono (by omega), ⟨_, rfl, by simp [g3], fun f hf => ?_⟩, clip_ok (by omega) (by omega), clip_ok (by omega) (by omega), by simp only; omega⟩
      rcases List.mem_append.1 hf with hf | hf
      · exact g4 f hf
      · have : f = ⟨t5, t6, r4⟩ := by simpa using hf
        subst this
        exact ⟨g5.1, g5.2, g6.1, g6.2, p4, by simp only; omega⟩)
    (fun ⟨t1, t2, t3, t4, t5, t6, t7⟩ ⟨g1, ⟨l, g2, g3, g4⟩, g5, g6, g7⟩ => by
      simp only at g1 g2 g3 g4 g5 g6 g7
      have c : ¬ 0 < t7 := by omega
      have e : s0_spec_l09Draw (t1, t2, t3, t4, t5, t6, t7) = some (.inr (t1, t2, t3, t4)) := by
        unfold s0_spec_l09Draw
        simp only [c, decide_false, cond_false]
      exact ⟨_, e, l, g2, g3, g4, g1⟩)
    (s := (s3.code, s3.pos, s3.seed, some [], r1, r2, 1 + r3)) ⟨k3.mono (by omega), ⟨[], rfl, rfl, fun f hf => by cases hf⟩, ⟨p1, by simp only; omega⟩, ⟨p2, by simp only; omega⟩, by simp only; omega⟩
  simp only at f2 f5
  subst f2
  rw [f1]
  exact ⟨l, _, rfl, f5.mono (by omega), by omega, by omega, f4⟩

theorem size_ok {n : Int} (h : -1000000 ≤ n) (h' : n ≤ 1000000) : ∃ r, t_spec_l09Size n = some r ∧ 0 ≤ r ∧ (r = n ∨ r = -n) := by
  unfold t_spec_l09Size
  by_cases c : n < 0
  · have w : wr (0 - n) = -n := by rw [wr_id (by omega) (by omega)]; omega
    simp only [c, decide_true, cond_true, w]
    exact ⟨_, rfl, by omega, .inr rfl⟩
  · simp only [c, decide_false, cond_false]
    exact ⟨_, rfl, by omega, .inl rfl⟩

/-- Two sequences, and a band for both. -/
structure Two (a b : List Feat) (band : Int) : Prop where
  a1 : 1 ≤ a.length
  a2 : a.length ≤ 9
  b1 : 1 ≤ b.length
  b2 : b.length ≤ 9
  fa : ∀ f ∈ a, FOK f
  fb : ∀ f ∈ b, FOK f
  d1 : (a.length : Int) - b.length ≤ band
  d2 : (b.length : Int) - a.length ≤ band
  b0 : 0 ≤ band
  b3 : band ≤ 20

theorem two_ex (code : Sl UInt8) : ∃ a b band, t_spec_A2Two code = some (some a, some b, band) ∧ Two a b band := by
  obtain ⟨a, s1, e1, k1, la1, la2, fa⟩ := dr_feats (s := ⟨code, 0, 0⟩) (k := 0) ⟨by simp, by simp⟩ (by omega) (most := 8) (by omega) (by omega)
  obtain ⟨b, s2, e2, k2, lb1, lb2, fb⟩ := dr_feats k1 (by omega) (most := 8) (by omega) (by omega)
  obtain ⟨r3, s3, e3, k3⟩ := dr_one k2 (by omega) (n := 2) (by omega)
  unfold t_spec_A2Two
  simp only [e1, e2, e3, obind_sm]
  cases r3 with
  | true =>
    obtain ⟨r4, s4, e4, k4, p4, q4, _⟩ := dr_pick k3 (by omega) (n := 256) (by omega)
    have q4' := q4 (by omega)
    have ap := appO_some (s := some ([] : List Feat)) (l := a) (by simp; omega)
    obtain ⟨f, hf, hf2⟩ := getI_in (l := a) (i := 0) (by omega) (by omega)
    have fm := fa f (List.mem_of_getElem? hf2)
    have ee : appS (some ([] : List Feat)) a = some a := by simp [appS]
    have w1 : wr ((a.length : Int) - (a.length : Int)) = 0 := by rw [wr_id (by omega) (by omega)]; omega
    obtain ⟨r5, e5, p5, q5⟩ := size_ok (n := 0) (by omega) (by omega)
    obtain ⟨r6, s6, e6, k6, p6, q6, _⟩ := dr_pick k4 (by omega) (n := 4) (by omega)
    have q6' := q6 (by omega)
    have w2 : wr (r5 + r6) = r5 + r6 := wr_id (by omega) (by omega)
    simp only [cond_true, Option.getD_some, ap, obind_sm, e4, ee, hf, setS, Option.map_some, List.length_set, w1, e5, e6, w2]
    refine ⟨_, _, _, rfl, la1, by omega, by simp; omega, by simp; omega, fa, fun g hg => ?_, by simp; omega, by simp; omega, by omega, by omega⟩
    rcases List.mem_or_eq_of_mem_set hg with hg | hg
    · exact fa g hg
    · subst hg
      exact ⟨p4, by simp only; omega, fm.y0, fm.y1, fm.d0, fm.d1⟩
  | false =>
    have w1 : wr ((a.length : Int) - (b.length : Int)) = (a.length : Int) - b.length := wr_id (by omega) (by omega)
    obtain ⟨r5, e5, p5, q5⟩ := size_ok (n := (a.length : Int) - b.length) (by omega) (by omega)
    obtain ⟨r6, s6, e6, k6, p6, q6, _⟩ := dr_pick k3 (by omega) (n := 4) (by omega)
    have q6' := q6 (by omega)
    have w2 : wr (r5 + r6) = r5 + r6 := wr_id (by omega) (by omega)
    simp only [cond_false, Option.getD_some, w1, e5, obind_sm, e6, w2]
    exact ⟨_, _, _, rfl, la1, by omega, lb1, by omega, fa, fb, by omega, by omega, by omega, by omega⟩

theorem wr_succ {k n : Nat} (h : k < n) (hn : n ≤ 4294967296) : wr ((k : Int) + 1) = ((k + 1 : Nat) : Int) := by
  rw [wr_id (by omega) (by omega)]
  omega

theorem get_lt {A : Type} {l : List A} {k : Nat} {a : A} (h : l[k]? = some a) : k < l.length := (List.getElem?_eq_some_iff.1 h).1

theorem cf_Feat {p : Feat → Option Bool} {f : Feat → Bool} (l : List Feat) (hl : l.length ≤ 4294967296) (hp : ∀ a ∈ l, p a = some (f a)) : t_slices_ContainsFunc_impl_Feat_impl_Feat p (some l) = some (l.any f) := by
  unfold t_slices_ContainsFunc_impl_Feat_impl_Feat t_slices_IndexFunc_impl_Feat_impl_Feat
  have h := loopT_first (step := s0_slices_IndexFunc_impl_Feat_impl_Feat p (some l)) l (fun k a => bif f a then some (k : Int) else none) (.inl ()) .inr
    (fun k a ha => by
      have hk := get_lt ha
      have c : (k : Int) < (l.length : Nat) := by omega
      have w := wr_succ hk hl
      unfold s0_slices_IndexFunc_impl_Feat_impl_Feat
      simp only [Option.getD_some, c, decide_true, cond_true, getI_nat ha, obind_sm, hp a (List.mem_of_getElem? ha), w]
      cases f a <;> rfl)
    (by
      unfold s0_slices_IndexFunc_impl_Feat_impl_Feat
      simp only [Option.getD_some, Int.lt_irrefl, decide_false, cond_false])
  have key : ∀ (l : List Feat) (k : Nat) (x : Option Int), firstL (fun (k : Nat) a => bif f a then some (k : Int) else none) l k = x → (x = none ∧ l.any f = false) ∨ ∃ r, x = some r ∧ 0 ≤ r ∧ l.any f = true := by
    intro l
    induction l with
    | nil => intro k x hx; exact .inl ⟨hx.symm, rfl⟩
    | cons a l ih =>
      intro k x hx
      unfold firstL at hx
      cases e : f a with
      | true =>
        rw [e] at hx
        exact .inr ⟨(k : Int), hx.symm, by omega, by simp [e]⟩
      | false =>
        rw [e] at hx
        rcases ih (k + 1) x hx with h | ⟨r, h1, h2, h3⟩
        · exact .inl ⟨h.1, by simp [e, h.2]⟩
        · exact .inr ⟨r, h1, h2, by simp [e, h3]⟩
  rcases key l 0 _ rfl with ⟨h1, h2⟩ | ⟨r, h1, h2, h3⟩
  · rw [h1] at h
    simp [h, h2]
  · rw [h1] at h
    simp [h, h2, h3]

theorem validFeat_ok {f : Feat} (h : FOK f) : t_impl_ValidFeat f = some true := by
  obtain ⟨h1, h2, h3, h4, h5, h6⟩ := h
  simp [t_impl_ValidFeat, within, h1, h2, h3, h4, h5, h6]

theorem validSeq_ok {l : List Feat} (h : ∀ f ∈ l, FOK f) (h1 : 1 ≤ l.length) (h2 : l.length ≤ 72) : t_impl_ValidSeq (some l) = some true := by
  have c := cf_Feat (p := t_impl_areFeats_1) (f := fun _ => false) l (by omega) (fun a ha => by simp [t_impl_areFeats_1, validFeat_ok (h a ha)])
  have e : l.any (fun _ => false) = false := by simp
  rw [e] at c
  have c1 : (1 : Int) ≤ (l.length : Nat) := by omega
  have c2 : ((l.length : Nat) : Int) ≤ 72 := by omega
  simp [t_impl_ValidSeq, t_impl_areFeats, c, c1, c2]

/-- A point that is one; the points of a stroke that is one. -/
structure PtV (p : Point) : Prop where
  x0 : 0 ≤ p.x
  x1 : p.x ≤ 4095
  y0 : 0 ≤ p.y
  y1 : p.y ≤ 4095
  t0 : 0 ≤ p.t
  t1 : p.t ≤ 3600000

structure StV (l : List Point) : Prop where
  pts : ∀ p ∈ l, PtV p
  inc : ∀ (k : Nat) p q, l[k]? = some p → l[k + 1]? = some q → p.t < q.t
  n1 : 1 ≤ l.length
  n2 : l.length ≤ 60

/-- Points of a bounded size. -/
structure PtB (p : Point) : Prop where
  x0 : -10000000 ≤ p.x
  x1 : p.x ≤ 10000000
  y0 : -10000000 ≤ p.y
  y1 : p.y ≤ 10000000
  t0 : -10000000 ≤ p.t
  t1 : p.t ≤ 10000000

structure StB (s : Stroke) : Prop where
  n : (s.points.getD []).length ≤ 100
  pts : ∀ p ∈ s.points.getD [], PtB p

theorem PtV.b {p : Point} (h : PtV p) : PtB p := by
  obtain ⟨h1, h2, h3, h4, h5, h6⟩ := h
  exact ⟨by omega, by omega, by omega, by omega, by omega, by omega⟩

theorem StV.b {l : List Point} (h : StV l) : StB ⟨some l⟩ := ⟨Nat.le_trans h.n2 (by omega), fun p hp => (h.pts p hp).b⟩

/-- Ink that is one. -/
structure InkV (L : List Stroke) : Prop where
  st : ∀ s ∈ L, ∃ l, s = ⟨some l⟩ ∧ StV l
  inc : ∀ (k : Nat) l l', L[k]? = some ⟨some l⟩ → L[k + 1]? = some ⟨some l'⟩ → ∀ p ∈ l, ∀ q ∈ l', p.t < q.t
  n : L.length ≤ 16

theorem InkV.b {L : List Stroke} (h : InkV L) : ∀ x ∈ L, StB x := fun x hx => by
  obtain ⟨l, rfl, hl⟩ := h.st x hx
  exact hl.b

def pt (l : List Point) (i : Nat) : Point := l.getD i ⟨0, 0, 0⟩

/-- One pair lies ahead of another. -/
def Pre (p q i j : Nat) : Prop := (i = p + 1 ∧ j = q + 1) ∨ (i = p + 1 ∧ j = q) ∨ (i = p ∧ j = q + 1)

/-- A path's cost, from the first pair on. -/
inductive Pth (C : Nat → Nat → Int) (R : Nat → Nat → Prop) : Nat → Nat → Int → Prop
  | start : R 0 0 → Pth C R 0 0 (C 0 0)
  | step {p q i j : Nat} {c : Int} : Pth C R p q c → Pre p q i j → R i j → Pth C R i j (c + C i j)

theorem Pth.inv {C : Nat → Nat → Int} {R : Nat → Nat → Prop} {i j : Nat} {c : Int} (h : Pth C R i j c) : (i = 0 ∧ j = 0 ∧ c = C 0 0 ∧ R 0 0) ∨ ∃ p q c', Pth C R p q c' ∧ Pre p q i j ∧ R i j ∧ c = c' + C i j := by
  cases h with
  | start h => exact .inl ⟨rfl, rfl, rfl, h⟩
  | step h1 h2 h3 => exact .inr ⟨_, _, _, h1, h2, h3, rfl⟩

theorem Pth.bound {C : Nat → Nat → Int} {R : Nat → Nat → Prop} {K : Int} (hC : ∀ i j, 0 ≤ C i j ∧ C i j ≤ K) {i j : Nat} {c : Int} (h : Pth C R i j c) : 0 ≤ c ∧ c ≤ K * ((i + j + 1 : Nat) : Int) := by
  have hK : 0 ≤ K := Int.le_trans (hC 0 0).1 (hC 0 0).2
  induction h with
  | start h => have := hC 0 0; simp; omega
  | @step p q i j c h1 h2 h3 ih =>
    have := hC i j
    have e : K * ((p + q + 1 : Nat) : Int) + K ≤ K * ((i + j + 1 : Nat) : Int) := by
      have e1 : K * ((p + q + 1 : Nat) : Int) + K = K * ((p + q + 2 : Nat) : Int) := by
        have e2 : ((p + q + 2 : Nat) : Int) = ((p + q + 1 : Nat) : Int) + 1 := by omega
        rw [e2, Int.mul_add, Int.mul_one]
      rw [e1]
      apply Int.mul_le_mul_of_nonneg_left _ hK
      rcases h2 with h2 | h2 | h2 <;> omega
    omega

theorem Pth.mono {C D : Nat → Nat → Int} {R S : Nat → Nat → Prop} {i j : Nat} {c : Int} (h : Pth C R i j c) (hR : ∀ p q, p ≤ i → q ≤ j → R p q → S p q) (hC : ∀ p q, p ≤ i → q ≤ j → C p q = D p q) : Pth D S i j c := by
  induction h with
  | start h =>
    rw [hC 0 0 (Nat.le_refl _) (Nat.le_refl _)]
    exact .start (hR 0 0 (Nat.le_refl _) (Nat.le_refl _) h)
  | @step p q i j c h1 h2 h3 ih =>
    have hle : p ≤ i ∧ q ≤ j := by rcases h2 with h | h | h <;> omega
    rw [hC i j (Nat.le_refl _) (Nat.le_refl _)]
    exact .step (ih (fun a b h4 h5 => hR a b (by omega) (by omega)) (fun a b h4 h5 => hC a b (by omega) (by omega))) h2 (hR i j (Nat.le_refl _) (Nat.le_refl _) h3)

def fAt (l : List Feat) (i : Nat) : Feat := l.getD i ⟨0, 0, 0⟩

def siz (x : Int) : Int := if x < 0 then -x else x

def fcost (a b : Feat) : Int := siz (a.x - b.x) + siz (a.y - b.y) + 16 * min (siz (a.d - b.d)) (8 - siz (a.d - b.d))

theorem absI_siz {x : Int} (h : -1000000 ≤ x) (h' : x ≤ 1000000) : absI x = siz x := by
  unfold absI siz
  by_cases c : x < 0
  · have w : wr (-x) = -x := wr_id (by omega) (by omega)
    simp [c, w]
  · simp [c]

theorem fAt_ok {l : List Feat} (h : ∀ f ∈ l, FOK f) (i : Nat) : FOK (fAt l i) := by
  unfold fAt
  rw [List.getD_eq_getElem?_getD]
  cases e : l[i]? with
  | none => exact ⟨by simp, by simp, by simp, by simp, by simp, by simp⟩
  | some f => exact h f (List.mem_of_getElem? e)

theorem getI_fAt {l : List Feat} {i : Nat} (h : i < l.length) : getI l (i : Int) = some (fAt l i) := by
  apply getI_nat
  unfold fAt
  rw [List.getD_eq_getElem?_getD, List.getElem?_eq_getElem h]
  rfl

theorem fcost_le {a b : Feat} (ha : FOK a) (hb : FOK b) : 0 ≤ fcost a b ∧ fcost a b ≤ 1000 := by
  obtain ⟨a1, a2, a3, a4, a5, a6⟩ := ha
  obtain ⟨b1, b2, b3, b4, b5, b6⟩ := hb
  unfold fcost siz
  split <;> split <;> split <;> omega

theorem featCost_ok {a b : Feat} (ha : FOK a) (hb : FOK b) : t_impl_featCost a b = some (fcost a b) := by
  have hc := fcost_le ha hb
  obtain ⟨a1, a2, a3, a4, a5, a6⟩ := ha
  obtain ⟨b1, b2, b3, b4, b5, b6⟩ := hb
  unfold t_impl_featCost
  have w1 : wr (a.d - b.d) = a.d - b.d := wr_id (by omega) (by omega)
  have w2 : wr (a.x - b.x) = a.x - b.x := wr_id (by omega) (by omega)
  have w3 : wr (a.y - b.y) = a.y - b.y := wr_id (by omega) (by omega)
  have q1 := absI_siz (x := a.d - b.d) (by omega) (by omega)
  have q2 := absI_siz (x := a.x - b.x) (by omega) (by omega)
  have q3 := absI_siz (x := a.y - b.y) (by omega) (by omega)
  have p1 : 0 ≤ siz (a.d - b.d) ∧ siz (a.d - b.d) ≤ 7 := by unfold siz; split <;> omega
  have p2 : 0 ≤ siz (a.x - b.x) ∧ siz (a.x - b.x) ≤ 255 := by unfold siz; split <;> omega
  have p3 : 0 ≤ siz (a.y - b.y) ∧ siz (a.y - b.y) ≤ 255 := by unfold siz; split <;> omega
  have w4 : wr (8 - siz (a.d - b.d)) = 8 - siz (a.d - b.d) := wr_id (by omega) (by omega)
  have w5 : wr (siz (a.x - b.x) + siz (a.y - b.y)) = siz (a.x - b.x) + siz (a.y - b.y) := wr_id (by omega) (by omega)
  have w6 : wr (16 * min (siz (a.d - b.d)) (8 - siz (a.d - b.d))) = 16 * min (siz (a.d - b.d)) (8 - siz (a.d - b.d)) := wr_id (by omega) (by omega)
  have w7 : wr (siz (a.x - b.x) + siz (a.y - b.y) + 16 * min (siz (a.d - b.d)) (8 - siz (a.d - b.d))) = fcost a b := by
    have e : siz (a.x - b.x) + siz (a.y - b.y) + 16 * min (siz (a.d - b.d)) (8 - siz (a.d - b.d)) = fcost a b := rfl
    rw [e, wr_id (by omega) (by omega)]
  simp only [w1, w2, w3, obind_sm, q1, q2, q3, w4, w5, w6, w7]

/-- A table's entry. -/
def Val (T : List (Sl Int)) (p q : Nat) (v : Int) : Prop := ∃ row, T[p]? = some (some row) ∧ row[q]? = some v

abbrev elC (a b : List Feat) : Nat → Nat → Int := fun i j => fcost (fAt a i) (fAt b j)

abbrev elR (band : Int) : Nat → Nat → Prop := fun i j => siz ((i : Int) - (j : Int)) ≤ band

theorem elC_le {a b : List Feat} (fa : ∀ f ∈ a, FOK f) (fb : ∀ f ∈ b, FOK f) (i j : Nat) : 0 ≤ elC a b i j ∧ elC a b i j ≤ 1000 := fcost_le (fAt_ok fa i) (fAt_ok fb j)

theorem Val.set {T : List (Sl Int)} {i j p q : Nat} {row : List Int} {v w : Int} (hr : T[i]? = some (some row)) (hj : j < row.length) :
    Val (T.set i (some (row.set j w))) p q v ↔ (p = i ∧ q = j ∧ v = w) ∨ (¬ (p = i ∧ q = j) ∧ Val T p q v) := by
  have hi := get_lt hr
  unfold Val
  constructor
  · rintro ⟨r, h1, h2⟩
    by_cases c : i = p
    · subst c
      rw [List.getElem?_set_self hi] at h1
      cases h1
      by_cases d : j = q
      · subst d
        rw [List.getElem?_set_self hj] at h2
        cases h2
        exact .inl ⟨rfl, rfl, rfl⟩
      · rw [List.getElem?_set_ne d] at h2
        exact .inr ⟨fun h => d h.2.symm, row, hr, h2⟩
    · rw [List.getElem?_set_ne c] at h1
      exact .inr ⟨fun h => c h.1.symm, r, h1, h2⟩
  · rintro (⟨rfl, rfl, rfl⟩ | ⟨hne, r, h1, h2⟩)
    · exact ⟨_, List.getElem?_set_self hi, List.getElem?_set_self hj⟩
    · by_cases c : i = p
      · subst c
        rw [hr] at h1
        cases h1
        have d : j ≠ q := fun h => hne ⟨rfl, h.symm⟩
        exact ⟨_, List.getElem?_set_self hi, by rw [List.getElem?_set_ne d]; exact h2⟩
      · exact ⟨r, by rw [List.getElem?_set_ne c]; exact h1, h2⟩

theorem l09Size_siz {n : Int} (h : -1000000 ≤ n) (h' : n ≤ 1000000) : t_spec_l09Size n = some (siz n) := by
  unfold t_spec_l09Size siz
  by_cases c : n < 0
  · have w : wr (-n) = -n := wr_id (by omega) (by omega)
    simp [c, w]
  · simp [c]

/-- The reference's table is flat. -/
theorem l09Cost_ok {a b : Feat} (ha : FOK a) (hb : FOK b) : t_spec_l09Cost a b = some (fcost a b) := by
  have hc := fcost_le ha hb
  obtain ⟨a1, a2, a3, a4, a5, a6⟩ := ha
  obtain ⟨b1, b2, b3, b4, b5, b6⟩ := hb
  unfold t_spec_l09Cost
  have w1 : wr (a.d - b.d) = a.d - b.d := wr_id (by omega) (by omega)
  have w2 : wr (a.x - b.x) = a.x - b.x := wr_id (by omega) (by omega)
  have w3 : wr (a.y - b.y) = a.y - b.y := wr_id (by omega) (by omega)
  have q1 := l09Size_siz (n := a.d - b.d) (by omega) (by omega)
  have q2 := l09Size_siz (n := a.x - b.x) (by omega) (by omega)
  have q3 := l09Size_siz (n := a.y - b.y) (by omega) (by omega)
  have p1 : 0 ≤ siz (a.d - b.d) ∧ siz (a.d - b.d) ≤ 7 := by unfold siz; split <;> omega
  have p2 : 0 ≤ siz (a.x - b.x) ∧ siz (a.x - b.x) ≤ 255 := by unfold siz; split <;> omega
  have p3 : 0 ≤ siz (a.y - b.y) ∧ siz (a.y - b.y) ≤ 255 := by unfold siz; split <;> omega
  have w4 : wr (8 - siz (a.d - b.d)) = 8 - siz (a.d - b.d) := wr_id (by omega) (by omega)
  have w5 : wr (siz (a.x - b.x) + siz (a.y - b.y)) = siz (a.x - b.x) + siz (a.y - b.y) := wr_id (by omega) (by omega)
  have w6 : wr (16 * min (siz (a.d - b.d)) (8 - siz (a.d - b.d))) = 16 * min (siz (a.d - b.d)) (8 - siz (a.d - b.d)) := wr_id (by omega) (by omega)
  have w7 : wr (siz (a.x - b.x) + siz (a.y - b.y) + 16 * min (siz (a.d - b.d)) (8 - siz (a.d - b.d))) = fcost a b := by
    have e : siz (a.x - b.x) + siz (a.y - b.y) + 16 * min (siz (a.d - b.d)) (8 - siz (a.d - b.d)) = fcost a b := rfl
    rw [e, wr_id (by omega) (by omega)]
  simp only [w1, w2, w3, obind_sm, q1, q2, q3, w4, w5, w6, w7]

abbrev bil : Int := 1000000000

theorem pre_d {i j : Nat} (hi : ¬ i = 0) (hj : ¬ j = 0) : Pre (i - 1) (j - 1) i j := by unfold Pre; omega

theorem pre_u {i j : Nat} (hi : ¬ i = 0) : Pre (i - 1) j i j := by unfold Pre; omega

theorem pre_l {i j : Nat} (hj : ¬ j = 0) : Pre i (j - 1) i j := by unfold Pre; omega

theorem flat_lt {n m p q : Nat} (hp : p < n) (hq : q < m) : p * m + q < n * m := by
  have h : (p + 1) * m ≤ n * m := Nat.mul_le_mul_right m hp
  rw [Nat.succ_mul] at h
  omega

theorem flat_ne {m p q i j : Nat} (hq : q < m) (h : p < i ∨ p = i ∧ q < j) : i * m + j ≠ p * m + q := by
  rcases h with h | ⟨rfl, h⟩
  · have h2 : (p + 1) * m ≤ i * m := Nat.mul_le_mul_right m h
    rw [Nat.succ_mul] at h2
    omega
  · omega

theorem l09Ok_ok {l : List Feat} (h : ∀ f ∈ l, FOK f) (h1 : 1 ≤ l.length) (h2 : l.length ≤ 72) : t_spec_l09Ok (some l) = some true := by
  have lp := loopT_first (step := s0_spec_l09Ok (some l)) l (fun _ _ => (none : Option Bool)) (.inl ()) .inr
    (fun k a ha => by
      have hk := get_lt ha
      have c : (k : Int) < (l.length : Nat) := by omega
      obtain ⟨f1, f2, f3, f4, f5, f6⟩ := h a (List.mem_of_getElem? ha)
      have v : t_spec_l09Feat a = some true := by simp [t_spec_l09Feat, within, f1, f2, f3, f4, f5, f6]
      unfold s0_spec_l09Ok
      simp only [Option.getD_some, c, decide_true, cond_true, getI_nat ha, obind_sm, v, Bool.not_true, cond_false, wr_succ hk (by omega)])
    (by
      unfold s0_spec_l09Ok
      simp only [Option.getD_some, Int.lt_irrefl, decide_false, cond_false])
  rw [firstL_none (fun _ _ _ => rfl)] at lp
  have w : within ((l.length : Nat) : Int) 1 72 = true := by simp [within]; omega
  unfold t_spec_l09Ok
  simp only [lp, obind_sm, Option.getD_some, w]

/-- A path through rows from the first one on, from any column `f`. -/
def PF (C : Nat → Nat → Int) (f i j : Nat) (c : Int) : Prop := f ≤ j ∧ Pth (fun p q => C p (q + f)) (fun _ _ => True) i (j - f) c

theorem PF.start {C : Nat → Nat → Int} (j : Nat) : PF C j 0 j (C 0 j) := by
  refine ⟨Nat.le_refl _, ?_⟩
  have h := Pth.start (C := fun p q => C p (q + j)) (R := fun _ _ => True) trivial
  simp only [Nat.zero_add] at h
  rw [Nat.sub_self]
  exact h

theorem PF.inv {C : Nat → Nat → Int} {f i j : Nat} {c : Int} (h : PF C f i j c) : (i = 0 ∧ f = j ∧ c = C 0 j) ∨ ∃ p q c', PF C f p q c' ∧ Pre p q i j ∧ c = c' + C i j := by
  obtain ⟨h1, h2⟩ := h
  rcases h2.inv with ⟨h3, h4, h5, _⟩ | ⟨p, q, c', h3, h4, _, h6⟩
  · have e : f = j := by omega
    subst e
    simp only [Nat.zero_add] at h5
    exact .inl ⟨h3, rfl, h5⟩
  · have h6 : c = c' + C i (j - f + f) := h6
    rw [Nat.sub_add_cancel (by omega)] at h6
    refine .inr ⟨p, q + f, c', ⟨by omega, by rw [Nat.add_sub_cancel]; exact h3⟩, by unfold Pre at *; omega, h6⟩

theorem PF.bound {C : Nat → Nat → Int} {K : Int} (hC : ∀ i j, 0 ≤ C i j ∧ C i j ≤ K) {f i j : Nat} {c : Int} (h : PF C f i j c) (hi : i ≤ 72) (hj : j ≤ 72) : 0 ≤ c ∧ c ≤ K * 145 := by
  obtain ⟨h1, h2⟩ := h
  have b := h2.bound (K := K) (fun p q => hC p (q + f))
  have hK : 0 ≤ K := Int.le_trans (hC 0 0).1 (hC 0 0).2
  have m : K * ((i + (j - f) + 1 : Nat) : Int) ≤ K * 145 := Int.mul_le_mul_of_nonneg_left (by omega) hK
  omega

def PVal (T : List (Sl Part)) (p q : Nat) (v : Part) : Prop := ∃ row, T[p]? = some (some row) ∧ row[q]? = some v

theorem PVal.set {T : List (Sl Part)} {i j p q : Nat} {row : List Part} {v w : Part} (hr : T[i]? = some (some row)) (hj : j < row.length) :
    PVal (T.set i (some (row.set j w))) p q v ↔ (p = i ∧ q = j ∧ v = w) ∨ (¬ (p = i ∧ q = j) ∧ PVal T p q v) := by
  have hi := get_lt hr
  unfold PVal
  constructor
  · rintro ⟨r, h1, h2⟩
    by_cases c : i = p
    · subst c
      rw [List.getElem?_set_self hi] at h1
      cases h1
      by_cases d : j = q
      · subst d
        rw [List.getElem?_set_self hj] at h2
        cases h2
        exact .inl ⟨rfl, rfl, rfl⟩
      · rw [List.getElem?_set_ne d] at h2
        exact .inr ⟨fun h => d h.2.symm, row, hr, h2⟩
    · rw [List.getElem?_set_ne c] at h1
      exact .inr ⟨fun h => c h.1.symm, r, h1, h2⟩
  · rintro (⟨rfl, rfl, rfl⟩ | ⟨hne, r, h1, h2⟩)
    · exact ⟨_, List.getElem?_set_self hi, List.getElem?_set_self hj⟩
    · by_cases c : i = p
      · subst c
        rw [hr] at h1
        cases h1
        have d : j ≠ q := fun h => hne ⟨rfl, h.symm⟩
        exact ⟨_, List.getElem?_set_self hi, by rw [List.getElem?_set_ne d]; exact h2⟩
      · exact ⟨r, by rw [List.getElem?_set_ne c]; exact h1, h2⟩

theorem subS_ok {A : Type} {l : List A} {f t : Nat} (h1 : f ≤ t) (h2 : t ≤ l.length) : subS (some l) (some (f : Int)) (some (t : Int)) = some (some ((l.take t).drop f)) := by
  have e1 : idx (iv (t : Int)) (l.length + 1) = some t := idx_lt (by omega)
  have e2 : idx (iv (f : Int)) (t + 1) = some f := idx_lt (by omega)
  unfold subS bndI
  simp only [Option.getD_some, e1, e2, obind_sm, Option.map_some]

def d2 (a b : Point) : Int := (a.x - b.x) * (a.x - b.x) + (a.y - b.y) * (a.y - b.y)

def pbox (p : Point) : Box := ⟨p.x, p.y, p.x, p.y⟩

/-- One box is in another one. -/
structure InB (a b : Box) : Prop where
  x1 : b.x1 ≤ a.x1
  y1 : b.y1 ≤ a.y1
  x2 : a.x2 ≤ b.x2
  y2 : a.y2 ≤ b.y2

theorem PtV.box {p : Point} (h : PtV p) : InB (pbox p) ⟨0, 0, 4095, 4095⟩ := ⟨h.x0, h.y0, h.x1, h.y1⟩

def side (b : Box) : Int := max (max (b.x2 - b.x1) (b.y2 - b.y1)) 1

/-! ### The cost of a text in a lattice: the least cost of a path -/
inductive Wy (E : List Edg) (lab : Nat → ByteArray) : Nat → Nat → Int → Prop
  | start : Wy E lab 0 0 0
  | step {k u v : Nat} {c : Int} {i : Nat} {e : Edg} : Wy E lab k u c → E[i]? = some e → e.frm = (u : Int) → e.upto = (v : Int) → e.label = lab k → Wy E lab (k + 1) v (c + e.cost)

def VE (E : List Edg) (N : Nat) : Prop := ∀ (i : Nat) e, E[i]? = some e → ∃ u v : Nat, e.frm = (u : Int) ∧ e.upto = (v : Int) ∧ u < v ∧ v < N ∧ 0 ≤ e.cost ∧ e.cost ≤ 1000000

theorem Wy.bound {E : List Edg} {lab : Nat → ByteArray} {N : Nat} (hE : VE E N) (h0 : 0 < N) {k v : Nat} {c : Int} (h : Wy E lab k v c) : v < N ∧ 0 ≤ c ∧ c ≤ (k : Int) * 1000000 := by
  induction h with
  | start => exact ⟨h0, by omega, by omega⟩
  | step hw he hf hu hl ih =>
    obtain ⟨u', v', e1, e2, e3, e4, e5, e6⟩ := hE _ _ he
    refine ⟨by omega, by omega, ?_⟩
    have := ih.2.2
    rw [Int.natCast_add, Int.add_mul]
    omega

theorem set_upd {L : List Int} {v : Nat} {x y : Int} (h : L[v]? = some x) (i : Nat) : (L.set v y)[i]? = if i = v then some y else L[i]? := by
  by_cases e : i = v
  · subst e
    rw [if_pos rfl, List.getElem?_set_self (get_lt h)]
  · rw [if_neg e, List.getElem?_set_ne (fun k => e k.symm)]

/-- .. what the first j edges tell of the next row. -/
def Nxt (E : List Edg) (lab : Nat → ByteArray) (k j : Nat) (v : Nat) (c : Int) : Prop := ∃ i e u c', i < j ∧ E[i]? = some e ∧ e.frm = ((u : Nat) : Int) ∧ e.upto = (v : Int) ∧ e.label = lab k ∧ Wy E lab k u c' ∧ c = c' + e.cost

theorem Nxt.all {E : List Edg} {lab : Nat → ByteArray} {k v : Nat} {c : Int} : Nxt E lab k E.length v c ↔ Wy E lab (k + 1) v c := by
  constructor
  · rintro ⟨i, e, u, c', _, he, hf, hu, hl, hw, rfl⟩
    exact .step hw he hf hu hl
  · intro h
    cases h with
    | step hw he hf hu hl => exact ⟨_, _, _, _, get_lt he, he, hf, hu, hl, hw, rfl⟩

/-- A cell's cost is at most c. -/
def Cap (n : Nat) (L : List Int) (v k : Nat) (c : Int) : Prop := ∃ x, L[v * (n + 1) + k]? = some x ∧ 0 ≤ x ∧ x ≤ c

theorem Cap.mono {n : Nat} {L : List Int} {v k m : Nat} {c x y : Int} (h : Cap n L v k c) (hx : L[m]? = some x) (hy : x < 0 ∨ y < x) (h0 : 0 ≤ y) : Cap n (L.set m y) v k c := by
  obtain ⟨z, h1, h2, h3⟩ := h
  unfold Cap
  rw [set_upd hx]
  by_cases e : v * (n + 1) + k = m
  · rw [if_pos e]
    rw [e, hx] at h1
    cases h1
    exact ⟨y, rfl, h0, by omega⟩
  · rw [if_neg e]
    exact ⟨z, h1, h2, h3⟩

/-! ### Sets of symbols as numbers; sums -/
theorem wr_shift (x q : Int) : wr (x + 18446744073709551616 * q) = wr x := by
  simp only [wr, IntKind.wrap, IntKind.bits, IntKind.signed]
  first | omega | (simp; done)

theorem wr_mod (x : Int) : ∃ q, wr x = x + 18446744073709551616 * q := by
  have h : ∃ q, wr x = x - 18446744073709551616 * q := by
    simp only [wr, IntKind.wrap, IntKind.bits, IntKind.signed]
    by_cases h : x % 18446744073709551616 ≥ 9223372036854775808
    · exact ⟨x / 18446744073709551616 + 1, by simp [h]; omega⟩
    · exact ⟨x / 18446744073709551616, by simp [h]; omega⟩
  obtain ⟨q, hq⟩ := h
  exact ⟨-q, by rw [hq]; omega⟩

theorem wr_add_l (x y : Int) : wr (wr x + y) = wr (x + y) := by
  obtain ⟨q, h⟩ := wr_mod x
  rw [h, show x + 18446744073709551616 * q + y = x + y + 18446744073709551616 * q by omega, wr_shift]

def upd (base : Nat → Int) (S : Nat) (x : Int) (v : Nat) : Int := if v = S then x else base v

theorem upd_self (base : Nat → Int) (S : Nat) (x : Int) : upd base S x S = x := if_pos rfl

theorem upd_ne {base : Nat → Int} {S v : Nat} (x : Int) (h : v ≠ S) : upd base S x v = base v := if_neg h

structure PI (l : Sl Symbol) (n : Nat) (bx : Nat → Box) (c : Nat → Int) (p : Parser) : Prop where
  list : p.list = l
  boxes : ∀ v, v < n → (p.boxes.getD [])[v]? = some (bx v)
  best : (p.best.getD []).length = n
  clen : (p.count.getD []).length = n
  count : ∀ v, v < n → (p.count.getD [])[v]? = some (c v)

structure CI (l : Sl Symbol) (n : Nat) (bx : Nat → Box) (c : Nat → Int) (p : Chart21) : Prop where
  list : p.list = l
  len : (p.cells.getD []).length = n
  cells : ∀ v, v < n → ∃ x, (p.cells.getD [])[v]? = some x ∧ x.box = bx v ∧ x.ways = c v

theorem setS_look {A : Type} {s : Sl A} {v : Nat} {x y : A} (h : (s.getD [])[v]? = some x) (i : Nat) : ((setS s (v : Int) y).getD [])[i]? = if i = v then some y else (s.getD [])[i]? := by
  cases s with
  | none => simp at h
  | some l =>
    show (l.set ((v : Int).toNat) y)[i]? = if i = v then some y else l[i]?
    rw [Int.toNat_natCast]
    have h' : l[v]? = some x := h
    by_cases e : i = v
    · subst e
      rw [if_pos rfl, List.getElem?_set_self (get_lt h')]
    · rw [if_neg e, List.getElem?_set_ne (fun k => e k.symm)]

theorem PI.add {l : Sl Symbol} {n : Nat} {bx : Nat → Box} {base : Nat → Int} {S : Nat} {X Y : Int} {p : Parser} (h : PI l n bx (upd base S (wr X)) p) (hS : S < n) (q : Sl Choice) (hq : (q.getD []).length = n) : PI l n bx (upd base S (wr (X + Y))) ⟨p.list, p.boxes, q, setS p.count (S : Int) (wr (wr X + Y))⟩ := by
  have hs := h.count S hS
  refine ⟨h.list, h.boxes, hq, by show ((setS p.count (S : Int) _).getD []).length = n; rw [setS_len]; exact h.clen, fun v hv => ?_⟩
  show ((setS p.count (S : Int) _).getD [])[v]? = _
  rw [setS_look hs]
  by_cases e : v = S
  · subst e
    rw [if_pos rfl, upd_self, wr_add_l]
  · rw [if_neg e, upd_ne _ e, h.count v hv, upd_ne _ e]

/-! ### One way, the reference's side; all divisions of a set, on both sides -/
theorem CI.add {l : Sl Symbol} {n : Nat} {bx : Nat → Box} {base : Nat → Int} {S : Nat} {X Y Z : Int} {p : Chart21} (h : CI l n bx (upd base S (wr X)) p) (hS : S < n) (y : Cell21) (hb : y.box = bx S) (hw : y.ways = wr (wr X + Y)) (hZ : wr (X + Y) = wr (X + Z)) : CI l n bx (upd base S (wr (X + Z))) ⟨p.list, setS p.cells (S : Int) y⟩ := by
  obtain ⟨x, hx, _⟩ := h.cells S hS
  refine ⟨h.list, by show ((setS p.cells (S : Int) _).getD []).length = n; rw [setS_len]; exact h.len, fun v hv => ?_⟩
  show ∃ x, ((setS p.cells (S : Int) _).getD [])[v]? = some x ∧ _
  rw [setS_look hx]
  by_cases e : v = S
  · subst e
    rw [if_pos rfl]
    exact ⟨y, rfl, hb, by rw [upd_self, hw, wr_add_l, hZ]⟩
  · rw [if_neg e]
    obtain ⟨z, h1, h2, h3⟩ := h.cells v hv
    exact ⟨z, h1, h2, by rw [h3, upd_ne _ e, upd_ne _ e]⟩

/-! ### The boxes of sets; one set whole -/
def shrQ (S i : Nat) : Int := Int.fdiv (S : Int) (2 ^ (min (i : Int).toNat 64))

def outQ (S i : Nat) : Bool := decide (andI (shrQ S i) 1 = 0)

/-! ### The best way (ParseSymbols) -/
structure Way where
  kind : Int
  sign : Int
  a : Nat
  b : Nat
  cost : Int
  ways : Int
  deriving DecidableEq

abbrev posLt (x y : Way) : Prop := x.kind < y.kind ∨ (x.kind = y.kind ∧ (x.sign < y.sign ∨ (x.sign = y.sign ∧ x.a < y.a)))

abbrev lexLt (x y : Way) : Prop := x.cost < y.cost ∨ (x.cost = y.cost ∧ posLt x y)

def stepI (o : Option Way) (t : Way) : Option Way := if t.ways = 0 then o else match o with
  | none => some t
  | some x => if lexLt t x then some t else some x

def chOf (t : Way) : Choice := ⟨t.kind, t.sign, (t.a : Int), (t.b : Int), t.cost⟩

structure PB (l : Sl Symbol) (n : Nat) (bx : Nat → Box) (base : Nat → Int) (bc : Nat → Choice) (S : Nat) (X : Int) (o : Option Way) (p : Parser) : Prop where
  pi : PI l n bx (upd base S (wr X)) p
  bst : ∀ v, v < n → v ≠ S → (p.best.getD [])[v]? = some (bc v)
  own : ∀ t, o = some t → (p.best.getD [])[S]? = some (chOf t)
  zero : o = none ↔ X = 0
  pos : 0 ≤ X

theorem PB.take {l : Sl Symbol} {n : Nat} {bx : Nat → Box} {base : Nat → Int} {bc : Nat → Choice} {S : Nat} {X : Int} {o : Option Way} {p : Parser} (h : PB l n bx base bc S X o p) (hS : S < n) {t : Way} (hp : 0 < t.ways) (hs : stepI o t = some t) : PB l n bx base bc S (X + t.ways) (stepI o t) ⟨p.list, p.boxes, setS p.best (S : Int) (chOf t), setS p.count (S : Int) (wr (wr X + t.ways))⟩ := by
  obtain ⟨y, hy⟩ : ∃ y, (p.best.getD [])[S]? = some y := ⟨_, List.getElem?_eq_getElem (by have := h.pi.best; omega)⟩
  have pos := h.pos
  refine ⟨h.pi.add hS _ (by rw [setS_len]; exact h.pi.best), fun v hv hn => ?_, fun u hu => ?_, ?_, by omega⟩
  · show ((setS p.best (S : Int) _).getD [])[v]? = _
    rw [setS_look hy, if_neg hn]
    exact h.bst v hv hn
  · show ((setS p.best (S : Int) _).getD [])[S]? = _
    rw [hs] at hu
    cases hu
    rw [setS_look hy, if_pos rfl]
  · rw [hs]
    exact ⟨fun e => (by cases e), fun e => by omega⟩

/-! ### One set whole, with its best way, on both sides -/
def lastIx (S : Nat) : Nat → Nat
  | 0 => 0
  | i + 1 => bif outQ S i then lastIx S i else i

def Lnk (N : Nat) (base : Nat → Int) (v : Nat) (x y : Choice) : Prop :=
  (v &&& (v - 1) = 0 ∧ y = ⟨0, (lastIx v N : Int), 0, 0, 0⟩) ∨ (v &&& (v - 1) ≠ 0 ∧ ∃ t : Way, x = chOf t ∧ y = chOf t ∧ t.kind ≠ 0 ∧ 0 < t.a ∧ t.a < v ∧ t.b < v ∧ base t.a ≠ 0 ∧ (t.b = 0 ∨ base t.b ≠ 0) ∧ t.a + t.b ≤ v)

theorem Lnk.mono {N v S : Nat} {base : Nat → Int} {x y : Choice} {u : Int} (h : Lnk N base v x y) (hv : v ≤ S) (hu : base S = 0) : Lnk N (upd base S u) v x y := by
  rcases h with h | ⟨h1, t, h2, h3, h4, h5, h6, h7, h8, h9, h10⟩
  · exact .inl h
  · refine .inr ⟨h1, t, h2, h3, h4, h5, h6, h7, ?_, ?_, h10⟩
    · rw [upd_ne _ (by omega)]
      exact h8
    · rw [upd_ne _ (by omega)]
      exact h9

/-! ### The sentence with the least cost, by itself -/
/-- Words that may stand at a place, each with its own cost. -/
abbrev CandL := List (ByteArray × Int)

/-- Words one behind the other, with their cost. -/
inductive SPth (pc : ByteArray → ByteArray → Int) : List CandL → ByteArray → List ByteArray → Int → Prop
  | nil {a : ByteArray} : SPth pc [] a [] 0
  | cons {C : CandL} {Cs : List CandL} {a w : ByteArray} {c r : Int} {ws : List ByteArray} (hw : (w, c) ∈ C) (h : SPth pc Cs w ws r) : SPth pc (C :: Cs) a (w :: ws) (pc a w + (c + r))

theorem SPth.len {pc : ByteArray → ByteArray → Int} {Cs : List CandL} {a : ByteArray} {ws : List ByteArray} {c : Int} (h : SPth pc Cs a ws c) : ws.length = Cs.length := by
  induction h with
  | nil => rfl
  | cons hw h ih => simp [ih]

theorem SPth.bound {pc : ByteArray → ByteArray → Int} (hp : ∀ a b, 0 ≤ pc a b ∧ pc a b ≤ 1000000) {Cs : List CandL} {a : ByteArray} {ws : List ByteArray} {c : Int} (h : SPth pc Cs a ws c) (hc : ∀ C ∈ Cs, ∀ p ∈ C, 0 ≤ p.2 ∧ p.2 ≤ 11000000) : 0 ≤ c ∧ c ≤ 12000000 * (Cs.length : Int) := by
  induction h with
  | nil => simp
  | @cons C Cs a w c r ws hw h ih =>
    have h1 := hc C (by simp) (w, c) hw
    have h2 := ih fun C hC => hc C (by simp [hC])
    have h3 := hp a w
    simp only [List.length_cons] at *
    omega

/-- A table's entries ahead of a place are costs of paths, or a cost that no path has. -/
abbrev WkB (a b : List Feat) (band : Int) (p q : Nat) (v : Int) : Prop := v = bil ∨ Pth (elC a b) (elR band) p q v

structure FltB (a b : List Feat) (band : Int) (i j : Nat) (T : List Int) : Prop where
  len : T.length = a.length * b.length
  val : ∀ p q, q < b.length → (p < i ∨ p = i ∧ q < j) → ∃ v, T[p * b.length + q]? = some v ∧ WkB a b band p q v

theorem wkB_bd {a b : List Feat} {band : Int} (fa : ∀ f ∈ a, FOK f) (fb : ∀ f ∈ b, FOK f) {p q : Nat} (hp : p ≤ 72) (hq : q ≤ 72) {v : Int} (h : WkB a b band p q v) : 0 ≤ v ∧ v ≤ bil := by
  rcases h with h | h
  · subst h
    unfold bil
    omega
  · have := h.bound (elC_le fa fb)
    unfold bil
    omega

theorem cellB_ok {a b : List Feat} {band : Int} (fa : ∀ f ∈ a, FOK f) (fb : ∀ f ∈ b, FOK f) (la : a.length ≤ 72) (lb : b.length ≤ 72) (hband : 0 ≤ band) {i j : Nat} (hi : i < a.length) (hj : j < b.length) {T : List Int} (h : FltB a b band i j T) :
    ∃ v, s1_spec_l09Table (some a) (some b) band (i : Int) (some T, (j : Int)) = some (.inl (some (T.set (i * b.length + j) v), ((j + 1 : Nat) : Int))) ∧ WkB a b band i j v := by
  have c : (j : Int) < ((b.length : Nat) : Int) := by omega
  have ws := wr_succ hj (by omega)
  have ga := getI_fAt hi
  have gb := getI_fAt hj
  have fc := l09Cost_ok (fAt_ok fa i) (fAt_ok fb j)
  have hc0 : 0 ≤ fcost (fAt a i) (fAt b j) ∧ fcost (fAt a i) (fAt b j) ≤ 1000 := elC_le fa fb i j
  have w1 : wr ((i : Int) - (j : Int)) = (i : Int) - (j : Int) := wr_id (by omega) (by omega)
  have q1 := l09Size_siz (n := (i : Int) - (j : Int)) (by omega) (by omega)
  have hlt := flat_lt hi hj
  have hbd : a.length * b.length ≤ 72 * 72 := Nat.mul_le_mul la lb
  obtain ⟨v0, hv0⟩ : ∃ v0, T[i * b.length + j]? = some v0 := ⟨T[i * b.length + j]'(by rw [h.len]; exact hlt), List.getElem?_eq_getElem (by rw [h.len]; exact hlt)⟩
  have gv := getI_nat hv0
  have im : (i : Int) * ((b.length : Nat) : Int) = ((i * b.length : Nat) : Int) := by push_cast; rfl
  have wi : wr (wr ((i : Int) * ((b.length : Nat) : Int)) + (j : Int)) = ((i * b.length + j : Nat) : Int) := by
    rw [im, wr_id (n := ((i * b.length : Nat) : Int)) (by omega) (by omega), wr_id (by omega) (by omega)]
    omega
  have st : ∀ x : Int, setS (some T) ((i * b.length + j : Nat) : Int) x = some (T.set (i * b.length + j) x) := fun x => by simp only [setS, Option.map_some, Int.toNat_natCast]
  have up : 0 < i → (i - 1) * b.length + b.length = i * b.length := fun hi0 => by
    obtain ⟨k, rfl⟩ : ∃ k, i = k + 1 := ⟨i - 1, by omega⟩
    rw [Nat.succ_mul, Nat.add_sub_cancel]
  have wu : 0 < i → wr (wr (wr ((i : Int) - 1) * ((b.length : Nat) : Int)) + (j : Int)) = (((i - 1) * b.length + j : Nat) : Int) := fun hi0 => by
    have e : wr ((i : Int) - 1) = ((i - 1 : Nat) : Int) := by rw [wr_id (by omega) (by omega)]; omega
    have u := up hi0
    have im2 : ((i - 1 : Nat) : Int) * ((b.length : Nat) : Int) = (((i - 1) * b.length : Nat) : Int) := by push_cast; rfl
    rw [e, im2, wr_id (n := (((i - 1) * b.length : Nat) : Int)) (by omega) (by omega), wr_id (by omega) (by omega)]
    omega
  have dt : ∀ {P : Prop} [Decidable P], P → decide P = true := fun h => decide_eq_true h
  have df : ∀ {P : Prop} [Decidable P], ¬ P → decide P = false := fun h => decide_eq_false h
  by_cases i0 : i = 0
  · have I1 := dt (P := (i : Int) = 0) (by omega)
    have I2 := df (P := (0 : Int) < (i : Int)) (by omega)
    by_cases j0 : j = 0
    · have J1 := dt (P := (j : Int) = 0) (by omega)
      have J2 := df (P := (0 : Int) < (j : Int)) (by omega)
      have q2 : siz ((i : Int) - (j : Int)) = 0 := by unfold siz; split <;> omega
      have D3 := df (P := band < siz ((i : Int) - (j : Int))) (by omega)
      have D4 := df (P := (0 : Int) = 1000000000) (by omega)
      have w2 : wr (0 + fcost (fAt a i) (fAt b j)) = elC a b i j := by show _ = fcost (fAt a i) (fAt b j); rw [Int.zero_add, wr_id (by omega) (by omega)]
      refine ⟨elC a b i j, ?_, .inr (by
        subst i0 j0
        exact .start (by show siz _ ≤ band; omega))⟩
      unfold s1_spec_l09Table
      simp only [Option.getD_some, c, decide_true, cond_true, I1, I2, J1, J2, obind_sm, cond_false, w1, q1, D3, D4, ga, gb, fc, wi, gv, w2, st, ws]
      rfl
    · have J1 := df (P := (j : Int) = 0) (by omega)
      have J2 := dt (P := (0 : Int) < (j : Int)) (by omega)
      obtain ⟨v, hv, ho⟩ := h.val i (j - 1) (by omega) (by omega)
      have vb := wkB_bd fa fb (by omega) (by omega) ho
      have wl : wr (((i * b.length + j : Nat) : Int) - 1) = ((i * b.length + (j - 1) : Nat) : Int) := by rw [wr_id (by omega) (by omega)]; omega
      have gl := getI_nat hv
      have mn : (fun a b : Int => min a b) 1000000000 v = v := by show min _ _ = _; unfold bil at vb; omega
      by_cases x4 : v = 1000000000
      · have D4 := dt x4
        refine ⟨bil, ?_, .inl rfl⟩
        unfold s1_spec_l09Table
        simp only [Option.getD_some, c, decide_true, cond_true, I1, I2, J1, J2, obind_sm, cond_false, w1, D4, wi, wl, gl, mn, gv, st, ws]
      · have D4 := df x4
        by_cases x3 : band < siz ((i : Int) - (j : Int))
        · have D3 := dt x3
          refine ⟨bil, ?_, .inl rfl⟩
          unfold s1_spec_l09Table
          simp only [Option.getD_some, c, decide_true, cond_true, I1, I2, J1, J2, obind_sm, cond_false, w1, q1, D3, D4, wi, wl, gl, mn, gv, st, ws]
        · have D3 := df x3
          have w2 : wr (v + fcost (fAt a i) (fAt b j)) = v + elC a b i j := wr_id (by unfold bil at vb; omega) (by unfold bil at vb; omega)
          refine ⟨v + elC a b i j, ?_, .inr (.step (ho.resolve_left x4) (pre_l j0) (Int.not_lt.1 x3))⟩
          unfold s1_spec_l09Table
          simp only [Option.getD_some, c, decide_true, cond_true, I1, I2, J1, J2, obind_sm, cond_false, w1, q1, D3, D4, ga, gb, fc, wi, wl, gl, mn, gv, w2, st, ws]
  · have I1 := df (P := (i : Int) = 0) (by omega)
    have I2 := dt (P := (0 : Int) < (i : Int)) (by omega)
    have hwu := wu (by omega)
    have hup := up (by omega)
    obtain ⟨v2, hv2, ho2⟩ := h.val (i - 1) j (by omega) (by omega)
    have vb2 := wkB_bd fa fb (by omega) (by omega) ho2
    have g2 := getI_nat hv2
    by_cases j0 : j = 0
    · have J1 := dt (P := (j : Int) = 0) (by omega)
      have J2 := df (P := (0 : Int) < (j : Int)) (by omega)
      have mn : (fun a b : Int => min a b) 1000000000 v2 = v2 := by show min _ _ = _; unfold bil at vb2; omega
      by_cases x4 : v2 = 1000000000
      · have D4 := dt x4
        refine ⟨bil, ?_, .inl rfl⟩
        unfold s1_spec_l09Table
        simp only [Option.getD_some, c, decide_true, cond_true, I1, I2, J1, J2, obind_sm, cond_false, w1, D4, wi, hwu, g2, mn, gv, st, ws]
      · have D4 := df x4
        by_cases x3 : band < siz ((i : Int) - (j : Int))
        · have D3 := dt x3
          refine ⟨bil, ?_, .inl rfl⟩
          unfold s1_spec_l09Table
          simp only [Option.getD_some, c, decide_true, cond_true, I1, I2, J1, J2, obind_sm, cond_false, w1, q1, D3, D4, wi, hwu, g2, mn, gv, st, ws]
        · have D3 := df x3
          have w2 : wr (v2 + fcost (fAt a i) (fAt b j)) = v2 + elC a b i j := wr_id (by unfold bil at vb2; omega) (by unfold bil at vb2; omega)
          refine ⟨v2 + elC a b i j, ?_, .inr (.step (ho2.resolve_left x4) (pre_u i0) (Int.not_lt.1 x3))⟩
          unfold s1_spec_l09Table
          simp only [Option.getD_some, c, decide_true, cond_true, I1, I2, J1, J2, obind_sm, cond_false, w1, q1, D3, D4, ga, gb, fc, wi, hwu, g2, mn, gv, w2, st, ws]
    · have J1 := df (P := (j : Int) = 0) (by omega)
      have J2 := dt (P := (0 : Int) < (j : Int)) (by omega)
      obtain ⟨v1, hv1, ho1⟩ := h.val (i - 1) (j - 1) (by omega) (by omega)
      obtain ⟨v3, hv3, ho3⟩ := h.val i (j - 1) (by omega) (by omega)
      have vb1 := wkB_bd fa fb (by omega) (by omega) ho1
      have vb3 := wkB_bd fa fb (by omega) (by omega) ho3
      have wl : wr (((i * b.length + j : Nat) : Int) - 1) = ((i * b.length + (j - 1) : Nat) : Int) := by rw [wr_id (by omega) (by omega)]; omega
      have wd : wr ((((i - 1) * b.length + j : Nat) : Int) - 1) = (((i - 1) * b.length + (j - 1) : Nat) : Int) := by rw [wr_id (by omega) (by omega)]; omega
      have g1 := getI_nat hv1
      have g3 := getI_nat hv3
      have mn1 : (fun a b : Int => min a b) 1000000000 v1 = v1 := by show min _ _ = _; unfold bil at vb1; omega
      obtain ⟨u, hu⟩ : ∃ u, u = min v1 v2 := ⟨_, rfl⟩
      have mn2 : (fun a b : Int => min a b) v1 v2 = u := hu.symm
      obtain ⟨w, hw⟩ : ∃ w, w = min u v3 := ⟨_, rfl⟩
      have mn3 : (fun a b : Int => min a b) u v3 = w := hw.symm
      have vw : 0 ≤ w ∧ w ≤ bil := by omega
      have hw3 : w = v1 ∨ w = v2 ∨ w = v3 := by omega
      by_cases x4 : w = 1000000000
      · have D4 := dt x4
        refine ⟨bil, ?_, .inl rfl⟩
        unfold s1_spec_l09Table
        simp only [Option.getD_some, c, decide_true, cond_true, I1, I2, J1, J2, obind_sm, cond_false, w1, D4, wi, hwu, wl, wd, g1, g2, g3, mn1, mn2, mn3, gv, st, ws]
      · have D4 := df x4
        by_cases x3 : band < siz ((i : Int) - (j : Int))
        · have D3 := dt x3
          refine ⟨bil, ?_, .inl rfl⟩
          unfold s1_spec_l09Table
          simp only [Option.getD_some, c, decide_true, cond_true, I1, I2, J1, J2, obind_sm, cond_false, w1, q1, D3, D4, wi, hwu, wl, wd, g1, g2, g3, mn1, mn2, mn3, gv, st, ws]
        · have D3 := df x3
          have w2 : wr (w + fcost (fAt a i) (fAt b j)) = w + elC a b i j := wr_id (by unfold bil at vw; omega) (by unfold bil at vw; omega)
          refine ⟨w + elC a b i j, ?_, .inr ?_⟩
          · unfold s1_spec_l09Table
            simp only [Option.getD_some, c, decide_true, cond_true, I1, I2, J1, J2, obind_sm, cond_false, w1, q1, D3, D4, ga, gb, fc, wi, hwu, wl, wd, g1, g2, g3, mn1, mn2, mn3, gv, w2, st, ws]
          · have hr : elR band i j := Int.not_lt.1 x3
            rcases hw3 with e | e | e
            · exact .step (by rw [e]; exact ho1.resolve_left (by rw [← e]; exact x4)) (pre_d i0 j0) hr
            · exact .step (by rw [e]; exact ho2.resolve_left (by rw [← e]; exact x4)) (pre_u i0) hr
            · exact .step (by rw [e]; exact ho3.resolve_left (by rw [← e]; exact x4)) (pre_l j0) hr

theorem flatB_ok {a b : List Feat} {band : Int} (fa : ∀ f ∈ a, FOK f) (fb : ∀ f ∈ b, FOK f) (la : a.length ≤ 72) (lb : b.length ≤ 72) (hband : 0 ≤ band) :
    ∃ T, t_spec_l09Table (some a) (some b) band = some (some T) ∧ FltB a b band a.length 0 T := by
  have hbd : a.length * b.length ≤ 72 * 72 := Nat.mul_le_mul la lb
  have inner : ∀ (i : Nat), i < a.length → ∀ (T : List Int), FltB a b band i 0 T → ∃ T', loopT (s1_spec_l09Table (some a) (some b) band (i : Int)) (some T, 0) = some (some T') ∧ FltB a b band (i + 1) 0 T' := by
    intro i hi T h
    obtain ⟨r, h1, h2⟩ := loopT_ex (step := s1_spec_l09Table (some a) (some b) band (i : Int)) (fun j s => ∃ T, s = (some T, (j : Int)) ∧ FltB a b band i j T) b.length (fun r => ∃ T', r = some T' ∧ FltB a b band (i + 1) 0 T')
      (fun j s hj hs => by
        obtain ⟨T, rfl, h⟩ := hs
        obtain ⟨v, e, ho⟩ := cellB_ok fa fb la lb hband hi hj h
        refine .inl ⟨_, e, _, rfl, by rw [List.length_set, h.len], fun p q hq hpq => ?_⟩
        by_cases e : p = i ∧ q = j
        · obtain ⟨rfl, rfl⟩ := e
          exact ⟨v, List.getElem?_set_self (by rw [h.len]; exact flat_lt hi hj), ho⟩
        · have hpq' : p < i ∨ p = i ∧ q < j := by omega
          obtain ⟨w, h1, h2⟩ := h.val p q hq hpq'
          exact ⟨w, by rw [List.getElem?_set_ne (flat_ne hq hpq')]; exact h1, h2⟩)
      (fun s hs => by
        obtain ⟨T, rfl, h⟩ := hs
        refine ⟨some T, ?_, T, rfl, h.len, fun p q hq hpq => h.val p q hq (by omega)⟩
        unfold s1_spec_l09Table
        simp only [Option.getD_some, Int.lt_irrefl, decide_false, cond_false])
      (s := (some T, 0)) ⟨T, rfl, h⟩
    obtain ⟨T', rfl, h3⟩ := h2
    exact ⟨T', h1, h3⟩
  obtain ⟨r, h1, h2⟩ := loopT_ex (step := s0_spec_l09Table (some a) (some b) band) (fun i s => ∃ T, s = (some T, (i : Int)) ∧ FltB a b band i 0 T) a.length (fun r => ∃ T, r = some T ∧ FltB a b band a.length 0 T)
    (fun i s hi hs => by
      obtain ⟨T, rfl, h⟩ := hs
      have c : (i : Int) < ((a.length : Nat) : Int) := by omega
      obtain ⟨T', e, h'⟩ := inner i hi _ h
      refine .inl ⟨(some T', ((i + 1 : Nat) : Int)), ?_, T', rfl, h'⟩
      unfold s0_spec_l09Table
      simp only [Option.getD_some, c, decide_true, cond_true, obind_sm, e, wr_succ hi (by omega)])
    (fun s hs => by
      obtain ⟨T, rfl, h⟩ := hs
      refine ⟨some T, ?_, T, rfl, h⟩
      unfold s0_spec_l09Table
      simp only [Option.getD_some, Int.lt_irrefl, decide_false, cond_false])
    (s := (some (List.replicate (a.length * b.length) 0), 0)) ⟨_, rfl, by simp, fun p q _ h => by omega⟩
  obtain ⟨T, rfl, h3⟩ := h2
  refine ⟨T, ?_, h3⟩
  have w : wr (((a.length : Nat) : Int) * ((b.length : Nat) : Int)) = ((a.length * b.length : Nat) : Int) := by
    have im : ((a.length : Nat) : Int) * ((b.length : Nat) : Int) = ((a.length * b.length : Nat) : Int) := by push_cast; rfl
    rw [im, wr_id (by omega) (by omega)]
  have mk : makeO (0 : Int) ((a.length * b.length : Nat) : Int) = some (List.replicate (a.length * b.length) 0) := by
    unfold makeO
    rw [if_pos ⟨by omega, by omega⟩, Int.toNat_natCast]
  unfold t_spec_l09Table
  simp only [Option.getD_some, w, mk, obind_sm, h1]

/-- The reference's cost is a path's, or one that no path has. -/
theorem specElasticB_ok {a b : List Feat} {band : Int} (T : Two a b band) :
    ∃ v, t_spec_Elastic (some a) (some b) band = some (v, 0) ∧ WkB a b band (a.length - 1) (b.length - 1) v := by
  obtain ⟨a1, a2, b1, b2, fa, fb, d1, d2, b0, b3⟩ := T
  obtain ⟨T, e, h⟩ := flatB_ok fa fb (by omega) (by omega) b0
  obtain ⟨v, hv, ho⟩ := h.val (a.length - 1) (b.length - 1) (by omega) (by omega)
  refine ⟨v, ?_, ho⟩
  have hbd : a.length * b.length ≤ 9 * 9 := Nat.mul_le_mul a2 b2
  have ix : (a.length - 1) * b.length + (b.length - 1) = a.length * b.length - 1 := by
    obtain ⟨k, hk⟩ : ∃ k, a.length = k + 1 := ⟨a.length - 1, by omega⟩
    rw [hk, Nat.succ_mul, Nat.add_sub_cancel]
    omega
  have pos : 0 < a.length * b.length := Nat.mul_pos (by omega) (by omega)
  have w1 : wr (((T.length : Nat) : Int) - 1) = ((a.length * b.length - 1 : Nat) : Int) := by rw [h.len, wr_id (by omega) (by omega)]; omega
  rw [ix] at hv
  have g := getI_nat hv
  have w3 : wr ((a.length : Int) - b.length) = (a.length : Int) - b.length := wr_id (by omega) (by omega)
  have q := l09Size_siz (n := (a.length : Int) - b.length) (by omega) (by omega)
  have q2 : ¬ band < siz ((a.length : Int) - b.length) := by unfold siz; split <;> omega
  have wi : within band 0 72 = true := by simp [within]; omega
  have v1 := l09Ok_ok fa a1 (by omega)
  have v2 := l09Ok_ok fb b1 (by omega)
  unfold t_spec_Elastic t_spec_l09Code t_spec_l09Least
  simp [v1, v2, wi, w3, q, q2, e, w1, g]

/-- What an envelope says of one place. -/
structure EnvlAt (b : List Feat) (band : Int) (i : Nat) (lx hx ly hy : Int) : Prop where
  all : ∀ j, j < b.length → siz ((i : Int) - (j : Int)) ≤ band → lx ≤ (fAt b j).x ∧ (fAt b j).x ≤ hx ∧ ly ≤ (fAt b j).y ∧ (fAt b j).y ≤ hy
  x0 : 0 ≤ lx
  x1 : lx ≤ hx
  x2 : hx ≤ 255
  y0 : 0 ≤ ly
  y1 : ly ≤ hy
  y2 : hy ≤ 255

structure EnvlOK (b : List Feat) (band : Int) (n : Nat) (LX HX LY HY : List Int) : Prop where
  l1 : LX.length = n
  l2 : HX.length = n
  l3 : LY.length = n
  l4 : HY.length = n
  val : ∀ i, i < n → ∃ lx hx ly hy, LX[i]? = some lx ∧ HX[i]? = some hx ∧ LY[i]? = some ly ∧ HY[i]? = some hy ∧ EnvlAt b band i lx hx ly hy

theorem fAt_get {l : List Feat} {j : Nat} (h : j < l.length) : l[j]? = some (fAt l j) := by
  unfold fAt
  rw [List.getD_eq_getElem?_getD, List.getElem?_eq_getElem h]
  rfl

theorem siz_le {x k : Int} (h : siz x ≤ k) : -k ≤ x ∧ x ≤ k := by
  unfold siz at h
  split at h <;> omega

theorem app_get {l : List Int} {x y : Int} {n i : Nat} (hl : l.length = n) (h : i < n → l[i]? = some y) (hx : i = n → y = x) (hi : i < n + 1) : (l ++ [x])[i]? = some y := by
  by_cases c : i < n
  · rw [List.getElem?_append_left (by omega)]
    exact h c
  · have : i = n := by omega
    rw [hx this, List.getElem?_append_right (by omega), hl, this, Nat.sub_self]
    rfl

theorem envelopeOf_ok {b : List Feat} {B n : Nat} (fb : ∀ f ∈ b, FOK f) (b1 : 1 ≤ b.length) (lb : b.length ≤ 72) (hn : n ≤ 72) (hB : B ≤ 72) (hnb : n ≤ b.length + B) :
    ∃ LX HX LY HY, t_impl_envelopeOf (some b) (n : Int) (B : Int) = some ⟨LX, HX, LY, HY⟩ ∧ EnvlOK b (B : Int) n (LX.getD []) (HX.getD []) (LY.getD []) (HY.getD []) := by
  obtain ⟨⟨LX, HX, LY, HY⟩, h1, h2⟩ := loopT_ex (step := s0_impl_envelopeOf (some b) (n : Int) (B : Int))
    (fun i (s : Sl Int × Sl Int × Sl Int × Sl Int × Int) => s.2.2.2.2 = (i : Int) ∧ EnvlOK b (B : Int) i (s.1.getD []) (s.2.1.getD []) (s.2.2.1.getD []) (s.2.2.2.1.getD [])) n
    (fun r => EnvlOK b (B : Int) n (r.1.getD []) (r.2.1.getD []) (r.2.2.1.getD []) (r.2.2.2.getD []))
    (fun i s hi hs => by
      obtain ⟨LX, HX, LY, HY, k⟩ := s
      obtain ⟨hk, he⟩ := hs
      simp only at hk he
      subst hk
      left
      have hf : max 0 (wr ((i : Int) - (B : Int))) = ((i - B : Nat) : Int) := by rw [wr_id (by omega) (by omega)]; omega
      have ht : min ((b.length : Nat) : Int) (wr (wr ((i : Int) + (B : Int)) + 1)) = ((min b.length (i + B + 1) : Nat) : Int) := by
        rw [wr_id (n := (i : Int) + (B : Int)) (by omega) (by omega), wr_id (by omega) (by omega)]
        omega
      have gf := getI_nat (fAt_get (l := b) (j := i - B) (by omega))
      have sb := subS_ok (l := b) (f := i - B) (t := min b.length (i + B + 1)) (by omega) (by omega)
      obtain ⟨sub, hsub⟩ : ∃ sub, sub = (b.take (min b.length (i + B + 1))).drop (i - B) := ⟨_, rfl⟩
      rw [← hsub] at sb
      have sl : sub.length = min b.length (i + B + 1) - (i - B) := by rw [hsub, List.length_drop, List.length_take]; omega
      have sg : ∀ j, j < sub.length → sub[j]? = some (fAt b (i - B + j)) := fun j hj => by
        rw [hsub, List.getElem?_drop, List.getElem?_take, if_pos (by omega)]
        exact fAt_get (by omega)
      have fz := fAt_ok fb (i - B)
      obtain ⟨f1, f2, f3, f4, f5, f6⟩ := fz
      obtain ⟨⟨lx, ly, hx, hy⟩, g1, g2⟩ := loopT_ex (step := s1_impl_envelopeOf (some sub))
        (fun j (s : Int × Int × Int × Int × Int × Int × Int) => s.2.2.2.2.2.2 = (j : Int) ∧ (0 ≤ s.1 ∧ s.1 ≤ s.2.2.2.1 ∧ s.2.2.2.1 ≤ 255 ∧ 0 ≤ s.2.1 ∧ s.2.1 ≤ s.2.2.2.2.1 ∧ s.2.2.2.2.1 ≤ 255) ∧
          ∀ p, p < j → s.1 ≤ (fAt b (i - B + p)).x ∧ (fAt b (i - B + p)).x ≤ s.2.2.2.1 ∧ s.2.1 ≤ (fAt b (i - B + p)).y ∧ (fAt b (i - B + p)).y ≤ s.2.2.2.2.1) sub.length
        (fun r => (0 ≤ r.1 ∧ r.1 ≤ r.2.2.1 ∧ r.2.2.1 ≤ 255 ∧ 0 ≤ r.2.1 ∧ r.2.1 ≤ r.2.2.2 ∧ r.2.2.2 ≤ 255) ∧ ∀ p, p < sub.length → r.1 ≤ (fAt b (i - B + p)).x ∧ (fAt b (i - B + p)).x ≤ r.2.2.1 ∧ r.2.1 ≤ (fAt b (i - B + p)).y ∧ (fAt b (i - B + p)).y ≤ r.2.2.2)
        (fun j s hj hs => by
          obtain ⟨lx, ly, d1, hx, hy, d2, k⟩ := s
          obtain ⟨hk, hr, ha⟩ := hs
          simp only at hk hr ha
          subst hk
          have gj := getI_nat (sg j hj)
          have c : (j : Int) < ((sub.length : Nat) : Int) := by omega
          obtain ⟨u1, u2, u3, u4, u5, u6⟩ := fAt_ok fb (i - B + j)
          refine .inl ⟨(min lx (fAt b (i - B + j)).x, min ly (fAt b (i - B + j)).y, d1, max hx (fAt b (i - B + j)).x, max hy (fAt b (i - B + j)).y, d2, ((j + 1 : Nat) : Int)), by
            unfold s1_impl_envelopeOf
            simp only [Option.getD_some, c, decide_true, cond_true, gj, obind_sm, wr_succ hj (by omega)], rfl, by simp only; omega, fun p hp => ?_⟩
          by_cases e : p = j
          · subst e
            simp only
            omega
          · have := ha p (by omega)
            simp only
            omega)
        (fun s hs => by
          obtain ⟨lx, ly, d1, hx, hy, d2, k⟩ := s
          obtain ⟨hk, hr, ha⟩ := hs
          simp only at hk hr ha
          subst hk
          refine ⟨(lx, ly, hx, hy), ?_, hr, ha⟩
          unfold s1_impl_envelopeOf
          simp only [Option.getD_some, Int.lt_irrefl, decide_false, cond_false])
        (s := ((fAt b (i - B)).x, (fAt b (i - B)).y, (fAt b (i - B)).d, (fAt b (i - B)).x, (fAt b (i - B)).y, (fAt b (i - B)).d, 0)) ⟨rfl, ⟨f1, Int.le_refl _, f2, f3, Int.le_refl _, f4⟩, fun p hp => by omega⟩
      obtain ⟨⟨r1, r2, r3, r4, r5, r6⟩, ga⟩ := g2
      simp only at r1 r2 r3 r4 r5 r6 ga
      have at_i : EnvlAt b (B : Int) i lx hx ly hy := ⟨fun j hj hs => by
        have := siz_le hs
        have h := ga (j - (i - B)) (by omega)
        have e : i - B + (j - (i - B)) = j := by omega
        rw [e] at h
        omega, r1, r2, r3, r4, r5, r6⟩
      obtain ⟨l1, l2, l3, l4, hv⟩ := he
      have a1 := appO_some (s := LX) (l := [lx]) (by simp; omega)
      have a2 := appO_some (s := HX) (l := [hx]) (by simp; omega)
      have a3 := appO_some (s := LY) (l := [ly]) (by simp; omega)
      have a4 := appO_some (s := HY) (l := [hy]) (by simp; omega)
      have c : (i : Int) < (n : Int) := by omega
      refine ⟨(appS LX [lx], appS HX [hx], appS LY [ly], appS HY [hy], ((i + 1 : Nat) : Int)), by
        unfold s0_impl_envelopeOf
        simp only [c, decide_true, cond_true, Option.getD_some, hf, ht, gf, obind_sm, sb, g1, a1, a2, a3, a4, wr_succ hi (by omega)], rfl, ?_⟩
      simp only [appS_getD]
      refine ⟨by simp [l1], by simp [l2], by simp [l3], by simp [l4], fun p hp => ?_⟩
      by_cases e : p = i
      · subst e
        exact ⟨lx, hx, ly, hy, app_get l1 (fun h => absurd h (by omega)) (fun _ => rfl) hp, app_get l2 (fun h => absurd h (by omega)) (fun _ => rfl) hp, app_get l3 (fun h => absurd h (by omega)) (fun _ => rfl) hp, app_get l4 (fun h => absurd h (by omega)) (fun _ => rfl) hp, at_i⟩
      · obtain ⟨x1, x2, x3, x4, y1, y2, y3, y4, y5⟩ := hv p (by omega)
        exact ⟨x1, x2, x3, x4, app_get l1 (fun _ => y1) (fun h => absurd h e) hp, app_get l2 (fun _ => y2) (fun h => absurd h e) hp, app_get l3 (fun _ => y3) (fun h => absurd h e) hp, app_get l4 (fun _ => y4) (fun h => absurd h e) hp, y5⟩)
    (fun s hs => by
      obtain ⟨LX, HX, LY, HY, k⟩ := s
      obtain ⟨hk, he⟩ := hs
      simp only at hk he
      subst hk
      refine ⟨(LX, HX, LY, HY), ?_, he⟩
      unfold s0_impl_envelopeOf
      simp only [Int.lt_irrefl, decide_false, cond_false])
    (s := ((none : Sl Int), (none : Sl Int), (none : Sl Int), (none : Sl Int), 0)) ⟨rfl, rfl, rfl, rfl, rfl, fun i hi => by omega⟩
  refine ⟨LX, HX, LY, HY, ?_, h2⟩
  unfold t_impl_envelopeOf
  simp only [h1, obind_sm]

def beyB (n lo hi : Int) : Int := max (lo - n) (max (n - hi) 0)

theorem beyB_le {n lo hi m : Int} (h1 : lo ≤ m) (h2 : m ≤ hi) : 0 ≤ beyB n lo hi ∧ beyB n lo hi ≤ siz (n - m) := by
  unfold beyB siz
  split <;> omega

theorem beyB_in {n lo hi : Int} (h1 : lo ≤ n) (h2 : n ≤ hi) : beyB n lo hi = 0 := by
  unfold beyB
  omega

theorem beyB_bd {n lo hi : Int} (h1 : 0 ≤ lo) (h2 : hi ≤ 255) (h3 : lo ≤ hi) (h4 : 0 ≤ n) (h5 : n ≤ 255) : 0 ≤ beyB n lo hi ∧ beyB n lo hi ≤ 255 := by
  unfold beyB
  omega

/-- How far a place is outside. -/
def outB (a : List Feat) (LX HX LY HY : List Int) (i : Nat) : Int := beyB (fAt a i).x (LX.getD i 0) (HX.getD i 0) + beyB (fAt a i).y (LY.getD i 0) (HY.getD i 0)

def sumB (a : List Feat) (LX HX LY HY : List Int) : Nat → Int
  | 0 => 0
  | i + 1 => sumB a LX HX LY HY i + outB a LX HX LY HY i

theorem outB_bd {a b : List Feat} {band : Int} {n i : Nat} {LX HX LY HY : List Int} (fa : ∀ f ∈ a, FOK f) (E : EnvlOK b band n LX HX LY HY) (hi : i < n) : 0 ≤ outB a LX HX LY HY i ∧ outB a LX HX LY HY i ≤ 510 := by
  obtain ⟨lx, hx, ly, hy, e1, e2, e3, e4, e⟩ := E.val i hi
  obtain ⟨u1, u2, u3, u4, u5, u6⟩ := fAt_ok fa i
  unfold outB
  simp only [List.getD_eq_getElem?_getD, e1, e2, e3, e4, Option.getD_some]
  have h1 := beyB_bd e.x0 e.x2 e.x1 u1 u2
  have h2 := beyB_bd e.y0 e.y2 e.y1 u3 u4
  omega

theorem sumB_bd {a b : List Feat} {band : Int} {n : Nat} {LX HX LY HY : List Int} (fa : ∀ f ∈ a, FOK f) (E : EnvlOK b band n LX HX LY HY) : ∀ i, i ≤ n → 0 ≤ sumB a LX HX LY HY i ∧ sumB a LX HX LY HY i ≤ 510 * (i : Int)
  | 0, _ => by simp [sumB]
  | i + 1, h => by
    have h1 := sumB_bd fa E i (by omega)
    have h2 := outB_bd (i := i) fa E (by omega)
    unfold sumB
    omega

theorem outsideOf_ok {a b : List Feat} {band : Int} {LX HX LY HY : Sl Int} (fa : ∀ f ∈ a, FOK f) (la : a.length ≤ 72) (E : EnvlOK b band a.length (LX.getD []) (HX.getD []) (LY.getD []) (HY.getD [])) :
    t_impl_outsideOf (some a) ⟨LX, HX, LY, HY⟩ = some (sumB a (LX.getD []) (HX.getD []) (LY.getD []) (HY.getD []) a.length) := by
  have lp := loopT_at (step := s0_impl_outsideOf (some a) ⟨LX, HX, LY, HY⟩) a.length (fun k => (sumB a (LX.getD []) (HX.getD []) (LY.getD []) (HY.getD []) k, (k : Int))) (sumB a (LX.getD []) (HX.getD []) (LY.getD []) (HY.getD []) a.length)
    (fun k hk => by
      have c : (k : Int) < ((a.length : Nat) : Int) := by omega
      have hs := sumB_bd fa E k (by omega)
      have ho := outB_bd fa E hk
      have eo : sumB a (LX.getD []) (HX.getD []) (LY.getD []) (HY.getD []) (k + 1) = sumB a (LX.getD []) (HX.getD []) (LY.getD []) (HY.getD []) k + outB a (LX.getD []) (HX.getD []) (LY.getD []) (HY.getD []) k := rfl
      obtain ⟨lx, hx, ly, hy, e1, e2, e3, e4, e⟩ := E.val k hk
      obtain ⟨u1, u2, u3, u4, u5, u6⟩ := fAt_ok fa k
      have p1 := e.x0
      have p2 := e.x1
      have p3 := e.x2
      have p4 := e.y0
      have p5 := e.y1
      have p6 := e.y2
      have w1 : wr (lx - (fAt a k).x) = lx - (fAt a k).x := wr_id (by omega) (by omega)
      have w2 : wr ((fAt a k).x - hx) = (fAt a k).x - hx := wr_id (by omega) (by omega)
      have w3 : wr (ly - (fAt a k).y) = ly - (fAt a k).y := wr_id (by omega) (by omega)
      have w4 : wr ((fAt a k).y - hy) = (fAt a k).y - hy := wr_id (by omega) (by omega)
      have eo2 : outB a (LX.getD []) (HX.getD []) (LY.getD []) (HY.getD []) k = max (lx - (fAt a k).x) (max ((fAt a k).x - hx) 0) + max (ly - (fAt a k).y) (max ((fAt a k).y - hy) 0) := by
        unfold outB beyB
        simp only [List.getD_eq_getElem?_getD, e1, e2, e3, e4, Option.getD_some]
      rw [eo2] at ho
      have w5 : wr (max (lx - (fAt a k).x) (max ((fAt a k).x - hx) 0) + max (ly - (fAt a k).y) (max ((fAt a k).y - hy) 0)) = max (lx - (fAt a k).x) (max ((fAt a k).x - hx) 0) + max (ly - (fAt a k).y) (max ((fAt a k).y - hy) 0) := wr_id (by omega) (by omega)
      have w6 : wr (sumB a (LX.getD []) (HX.getD []) (LY.getD []) (HY.getD []) k + (max (lx - (fAt a k).x) (max ((fAt a k).x - hx) 0) + max (ly - (fAt a k).y) (max ((fAt a k).y - hy) 0))) = sumB a (LX.getD []) (HX.getD []) (LY.getD []) (HY.getD []) (k + 1) := by
        rw [eo, eo2, wr_id (by omega) (by omega)]
      unfold s0_impl_outsideOf
      simp only [Option.getD_some, c, decide_true, cond_true, getI_fAt hk, getI_nat e1, getI_nat e2, getI_nat e3, getI_nat e4, obind_sm, w1, w2, w3, w4, w5, w6, wr_succ hk (by omega)])
    (by
      unfold s0_impl_outsideOf
      simp only [Option.getD_some, Int.lt_irrefl, decide_false, cond_false]) 0 (by omega)
  have lp' : loopT (s0_impl_outsideOf (some a) ⟨LX, HX, LY, HY⟩) (0, 0) = some (sumB a (LX.getD []) (HX.getD []) (LY.getD []) (HY.getD []) a.length) := lp
  unfold t_impl_outsideOf
  simp only [lp', obind_sm]

/-- No path costs less than what lies outside. -/
theorem sumB_le {a b : List Feat} {band : Int} {n : Nat} {LX HX LY HY : List Int} (fa : ∀ f ∈ a, FOK f) (fb : ∀ f ∈ b, FOK f) (E : EnvlOK b band n LX HX LY HY) {i j : Nat} {c : Int} (h : Pth (elC a b) (elR band) i j c) :
    i < n → j < b.length → sumB a LX HX LY HY (i + 1) ≤ c := by
  have one : ∀ {i j : Nat}, i < n → j < b.length → elR band i j → 0 ≤ outB a LX HX LY HY i ∧ outB a LX HX LY HY i ≤ elC a b i j := by
    intro i j hi hj hr
    obtain ⟨lx, hx, ly, hy, e1, e2, e3, e4, e⟩ := E.val i hi
    obtain ⟨h1, h2, h3, h4⟩ := e.all j hj hr
    have b1 := beyB_le (n := (fAt a i).x) h1 h2
    have b2 := beyB_le (n := (fAt a i).y) h3 h4
    obtain ⟨u1, u2, u3, u4, u5, u6⟩ := fAt_ok fa i
    obtain ⟨v1, v2, v3, v4, v5, v6⟩ := fAt_ok fb j
    have h5 : 0 ≤ siz ((fAt a i).d - (fAt b j).d) ∧ siz ((fAt a i).d - (fAt b j).d) ≤ 7 := by unfold siz; split <;> omega
    have ec : elC a b i j = siz ((fAt a i).x - (fAt b j).x) + siz ((fAt a i).y - (fAt b j).y) + 16 * min (siz ((fAt a i).d - (fAt b j).d)) (8 - siz ((fAt a i).d - (fAt b j).d)) := rfl
    rw [ec]
    unfold outB
    simp only [List.getD_eq_getElem?_getD, e1, e2, e3, e4, Option.getD_some]
    omega
  induction h with
  | start hr =>
    intro hi hj
    have := one hi hj hr
    simp only [sumB]
    omega
  | @step p q i j c h1 h2 h3 ih =>
    intro hi hj
    have := one hi hj h3
    have ih' := ih (by rcases h2 with h | h | h <;> omega) (by rcases h2 with h | h | h <;> omega)
    rcases h2 with ⟨rfl, rfl⟩ | ⟨rfl, rfl⟩ | ⟨rfl, rfl⟩
    · rw [sumB]
      omega
    · rw [sumB]
      omega
    · omega

theorem Pth.first_le {C : Nat → Nat → Int} {R : Nat → Nat → Prop} (hC : ∀ i j, 0 ≤ C i j) {i j : Nat} {c : Int} (h : Pth C R i j c) : C 0 0 ≤ c := by
  induction h with
  | start h => exact Int.le_refl _
  | @step p q i j c h1 h2 h3 ih =>
    have := hC i j
    omega

def endsB (a b : List Feat) : Int := if a.length > 1 ∨ b.length > 1 then elC a b 0 0 + elC a b (a.length - 1) (b.length - 1) else elC a b 0 0

theorem endsB_bd {a b : List Feat} (fa : ∀ f ∈ a, FOK f) (fb : ∀ f ∈ b, FOK f) : 0 ≤ endsB a b ∧ endsB a b ≤ 2000 := by
  have h1 := elC_le fa fb 0 0
  have h2 := elC_le fa fb (a.length - 1) (b.length - 1)
  unfold endsB
  split <;> omega

theorem endsB_le {a b : List Feat} {band : Int} (fa : ∀ f ∈ a, FOK f) (fb : ∀ f ∈ b, FOK f) {c : Int} (h : Pth (elC a b) (elR band) (a.length - 1) (b.length - 1) c) : endsB a b ≤ c := by
  have hC := elC_le fa fb
  unfold endsB
  split
  · rename_i hg
    rcases h.inv with ⟨h1, h2, _⟩ | ⟨p, q, c', h1, h2, h3, h4⟩
    · omega
    · have := h1.first_le (fun i j => (hC i j).1)
      omega
  · exact h.first_le (fun i j => (hC i j).1)

theorem endsBound_ok {a b : List Feat} (fa : ∀ f ∈ a, FOK f) (fb : ∀ f ∈ b, FOK f) (a1 : 1 ≤ a.length) (la : a.length ≤ 72) (b1 : 1 ≤ b.length) (lb : b.length ≤ 72) : t_impl_endsBound (some a) (some b) = some (endsB a b) := by
  have g1 : getI a 0 = some (fAt a 0) := getI_fAt (i := 0) (by omega)
  have g2 : getI b 0 = some (fAt b 0) := getI_fAt (i := 0) (by omega)
  have f1 := featCost_ok (fAt_ok fa 0) (fAt_ok fb 0)
  have f2 := featCost_ok (fAt_ok fa (a.length - 1)) (fAt_ok fb (b.length - 1))
  have w1 : wr (((a.length : Nat) : Int) - 1) = ((a.length - 1 : Nat) : Int) := by rw [wr_id (by omega) (by omega)]; omega
  have w2 : wr (((b.length : Nat) : Int) - 1) = ((b.length - 1 : Nat) : Int) := by rw [wr_id (by omega) (by omega)]; omega
  have g3 := getI_fAt (l := a) (i := a.length - 1) (by omega)
  have g4 := getI_fAt (l := b) (i := b.length - 1) (by omega)
  have h1 := elC_le fa fb 0 0
  have h2 := elC_le fa fb (a.length - 1) (b.length - 1)
  have w3 : wr (fcost (fAt a 0) (fAt b 0) + fcost (fAt a (a.length - 1)) (fAt b (b.length - 1))) = elC a b 0 0 + elC a b (a.length - 1) (b.length - 1) := wr_id (by show _ ≤ elC a b 0 0 + elC a b (a.length - 1) (b.length - 1); omega) (by show elC a b 0 0 + elC a b (a.length - 1) (b.length - 1) ≤ _; omega)
  unfold t_impl_endsBound endsB
  by_cases c1 : 1 < a.length
  · have d1 : (1 : Int) < ((a.length : Nat) : Int) := by omega
    rw [if_pos (.inl c1)]
    simp only [Option.getD_some, g1, g2, obind_sm, f1, d1, decide_true, cond_true, w1, w2, g3, g4, f2, w3]
  · have d1 : ¬ (1 : Int) < ((a.length : Nat) : Int) := by omega
    by_cases c2 : 1 < b.length
    · have d2 : (1 : Int) < ((b.length : Nat) : Int) := by omega
      rw [if_pos (.inr c2)]
      simp only [Option.getD_some, g1, g2, obind_sm, f1, d1, d2, decide_true, decide_false, cond_true, cond_false, w1, w2, g3, g4, f2, w3]
    · have d2 : ¬ (1 : Int) < ((b.length : Nat) : Int) := by omega
      rw [if_neg (by omega)]
      simp only [Option.getD_some, g1, g2, obind_sm, f1, d1, d2, decide_false, cond_false]

theorem limits_ok {n : Nat} {L H : Sl Int} (h1 : (L.getD []).length = n) (h2 : (H.getD []).length = n) (hn : 1 ≤ n) (hn2 : n ≤ 72) (hv : ∀ i, i < n → ∃ l h, (L.getD [])[i]? = some l ∧ (H.getD [])[i]? = some h ∧ 0 ≤ l ∧ l ≤ h ∧ h ≤ 255) :
    t_spec_l10Bounds L H = some true ∧ t_impl_validLimits L H (n : Int) = some true := by
  have lp1 := loopT_at (step := s0_spec_l10Bounds L H) n (fun k => (k : Int)) (.inl ())
    (fun k hk => by
      obtain ⟨l, h, e1, e2, p1, p2, p3⟩ := hv k hk
      have c : (k : Int) < (((L.getD []).length : Nat) : Int) := by omega
      have d1 : ¬ (255 : Int) < h := by omega
      have d2 : within l 0 h = true := by simp [within]; omega
      unfold s0_spec_l10Bounds
      simp only [c, decide_true, cond_true, getI_nat e1, getI_nat e2, obind_sm, d1, d2, decide_false, Bool.not_true, cond_false, wr_succ hk (by omega)])
    (by
      unfold s0_spec_l10Bounds
      simp only [h1, Int.lt_irrefl, decide_false, cond_false]) 0 (by omega)
  have lp2 := loopT_at (step := s0_impl_validLimits L H) n (fun k => (k : Int)) (.inl ())
    (fun k hk => by
      obtain ⟨l, h, e1, e2, p1, p2, p3⟩ := hv k hk
      have c : (k : Int) < (((L.getD []).length : Nat) : Int) := by omega
      have d1 : ¬ (255 : Int) < h := by omega
      have d2 : ¬ l < 0 := by omega
      have d3 : ¬ h < l := by omega
      unfold s0_impl_validLimits
      simp only [c, decide_true, cond_true, getI_nat e1, getI_nat e2, obind_sm, d1, d2, d3, decide_false, cond_false, wr_succ hk (by omega)])
    (by
      unfold s0_impl_validLimits
      simp only [h1, Int.lt_irrefl, decide_false, cond_false]) 0 (by omega)
  have lp1' : loopT (s0_spec_l10Bounds L H) 0 = some (.inl ()) := lp1
  have lp2' : loopT (s0_impl_validLimits L H) 0 = some (.inl ()) := lp2
  have w : within (n : Int) 1 72 = true := by simp [within]; omega
  constructor
  · unfold t_spec_l10Bounds
    simp only [h1, h2, decide_true, Bool.not_true, cond_false, w, obind_sm, lp1']
  · unfold t_impl_validLimits
    simp only [h1, h2, decide_true, Bool.not_true, cond_false, obind_sm, lp2']

theorem envs_ok {b : List Feat} {band : Int} {n : Nat} {LX HX LY HY : Sl Int} (E : EnvlOK b band n (LX.getD []) (HX.getD []) (LY.getD []) (HY.getD [])) (hn : 1 ≤ n) (hn2 : n ≤ 72) :
    t_spec_ValidEnvelope ⟨LX, HX, LY, HY⟩ = some true ∧ t_impl_ValidEnvelope ⟨LX, HX, LY, HY⟩ = some true := by
  obtain ⟨x1, x2⟩ := limits_ok E.l1 E.l2 hn hn2 (fun i hi => by
    obtain ⟨lx, hx, ly, hy, e1, e2, e3, e4, e⟩ := E.val i hi
    exact ⟨lx, hx, e1, e2, e.x0, e.x1, e.x2⟩)
  obtain ⟨y1, y2⟩ := limits_ok E.l3 E.l4 hn hn2 (fun i hi => by
    obtain ⟨lx, hx, ly, hy, e1, e2, e3, e4, e⟩ := E.val i hi
    exact ⟨ly, hy, e3, e4, e.y0, e.y1, e.y2⟩)
  have d1 : (1 : Int) ≤ (n : Int) := by omega
  have d2 : (n : Int) ≤ 72 := by omega
  constructor
  · unfold t_spec_ValidEnvelope t_spec_l10Ok
    simp only [x1, y1, obind_sm, cond_true, E.l1, E.l3, decide_true]
  · unfold t_impl_ValidEnvelope
    simp only [x2, y2, obind_sm, cond_true, E.l1, decide_true, d1, d2]

theorem true_FnBounds (code : Sl UInt8) : t_laws_FnBounds code = some true := by
  unfold t_laws_FnBounds t_laws_a2Long
  by_cases c1 : 3000 < (((code.getD []).length : Nat) : Int)
  · simp [c1]
  obtain ⟨a, b, band, e1, T⟩ := two_ex code
  obtain ⟨a1, a2, b1, b2, fa, fb, d1, d2, b0, b3⟩ := id T
  obtain ⟨v, e2, hv⟩ := specElasticB_ok T
  obtain ⟨B, rfl⟩ : ∃ B : Nat, band = (B : Int) := ⟨band.toNat, by omega⟩
  obtain ⟨LX, HX, LY, HY, e3, E⟩ := envelopeOf_ok (b := b) (B := B) (n := a.length) fb b1 (by omega) (by omega) (by omega) (by omega)
  obtain ⟨MX, NX, MY, NY, e4, F⟩ := envelopeOf_ok (b := b) (B := B) (n := b.length) fb b1 (by omega) (by omega) (by omega) (by omega)
  have o1 := outsideOf_ok fa (by omega) E
  have o2 := outsideOf_ok fb (by omega) F
  have z : ∀ i, i ≤ b.length → sumB b (MX.getD []) (NX.getD []) (MY.getD []) (NY.getD []) i = 0 := by
    intro i
    induction i with
    | zero => intro _; rfl
    | succ i ih =>
      intro hi
      obtain ⟨lx, hx, ly, hy, f1, f2, f3, f4, f⟩ := F.val i (by omega)
      obtain ⟨g1, g2, g3, g4⟩ := f.all i (by omega) (by unfold siz; split <;> omega)
      rw [sumB, ih (by omega)]
      unfold outB
      simp only [List.getD_eq_getElem?_getD, f1, f2, f3, f4, Option.getD_some]
      rw [beyB_in g1 g2, beyB_in g3 g4]
      rfl
  rw [z _ (Nat.le_refl _)] at o2
  have v1 := validSeq_ok fa a1 (by omega)
  have v2 := validSeq_ok fb b1 (by omega)
  obtain ⟨p1, p2⟩ := envs_ok F b1 (by omega)
  have en := endsBound_ok fa fb a1 (by omega) b1 (by omega)
  obtain ⟨s, hs⟩ : ∃ s, s = sumB a (LX.getD []) (HX.getD []) (LY.getD []) (HY.getD []) a.length := ⟨_, rfl⟩
  rw [← hs] at o1
  have sb := sumB_bd fa E a.length (Nat.le_refl _)
  rw [← hs] at sb
  have eb := endsB_bd fa fb
  have le : s ≤ v ∧ endsB a b ≤ v := by
    rcases hv with hv | hv
    · rw [hv]
      unfold bil
      omega
    · have h1 := sumB_le fa fb E hv (by omega) (by omega)
      have ee : a.length - 1 + 1 = a.length := by omega
      rw [ee, ← hs] at h1
      exact ⟨h1, endsB_le fa fb hv⟩
  have w3 : wr ((a.length : Int) - b.length) = (a.length : Int) - b.length := wr_id (by omega) (by omega)
  have q3 := absI_siz (x := (a.length : Int) - b.length) (by omega) (by omega)
  have q4 : siz ((a.length : Int) - b.length) ≤ (B : Int) := by unfold siz; split <;> omega
  have w5 : wr ((b.length : Int) - b.length) = 0 := by rw [wr_id (by omega) (by omega)]; omega
  have q5 : absI 0 = 0 := by decide
  have wi : within (B : Int) 0 72 = true := by simp [within]; omega
  have wl : within ((b.length : Nat) : Int) 1 72 = true := by simp [within]; omega
  have i1 : t_impl_isBand (B : Int) ((a.length : Nat) : Int) ((b.length : Nat) : Int) = some true := by
    unfold t_impl_isBand
    simp only [wi, obind_sm, cond_true, w3, q3, q4, decide_true]
  have i2 : t_impl_isBand (B : Int) ((b.length : Nat) : Int) ((b.length : Nat) : Int) = some true := by
    unfold t_impl_isBand
    have : (0 : Int) ≤ (B : Int) := by omega
    simp only [wi, obind_sm, cond_true, w5, q5, this, decide_true]
  have L : t_impl_LowerBound (some a) (some b) (B : Int) = some (max s (endsB a b), 0) := by
    unfold t_impl_LowerBound t_impl_matchable t_impl_lowerBound
    simp only [v1, v2, obind_sm, Bool.not_true, cond_false, Option.getD_some, i1, decide_true, e3, o1, en]
  have N : t_impl_EndsBound (some a) (some b) = some (endsB a b, 0) := by
    unfold t_impl_EndsBound
    simp only [v1, v2, obind_sm, Bool.not_true, cond_false, en]
  have V : t_impl_EnvelopeOf (some b) ((b.length : Nat) : Int) (B : Int) = some (⟨MX, NX, MY, NY⟩, 0) := by
    unfold t_impl_EnvelopeOf
    simp only [v2, obind_sm, Bool.not_true, cond_false, Option.getD_some, wl, i2, e4]
  have O : t_impl_OutsideOf (some b) ⟨MX, NX, MY, NY⟩ = some (0, 0) := by
    unfold t_impl_OutsideOf
    have := F.l1
    simp only [v2, p2, obind_sm, Bool.not_true, cond_false, Option.getD_some, this, decide_true, o2]
  have r1 : ¬ v < max s (endsB a b) := by omega
  have r2 : ¬ max s (endsB a b) < endsB a b := by omega
  have r3 : ¬ endsB a b < 0 := by omega
  have n0 : decide (3000 < (((none : Sl UInt8).getD []).length : Int)) = false := by decide
  simp only [c1, n0, decide_false, cond_false, obind_sm, e1, L, e2, N, decide_true, Bool.not_true, r1, r2, r3, Option.getD_some, V, p1, O, cond_true]

theorem ok_laws_FnBounds : PureOK Try.prog n_laws_FnBounds (G1 (fun a : Sl UInt8 => Wt.big a) fun _ => bv true) := lawC1 tt_laws_FnBounds fun a _ => true_FnBounds a

theorem law_FnBounds (a : Sl UInt8) (ha : Row.fine a) : G1 (fun a : Sl UInt8 => Wt.big a) (fun _ => bv true) [enc a] = some (bv true) := G1_enc _ _ a (by simp [Wt.fb a ha])

theorem isC_5 {cs : List AV} (h : IsC Try.prog 5 cs) : ∃ x : UInt8, cs = Row.cells x ∧ Row.fine x := by
  obtain ⟨n, rfl, hn⟩ := IsC.intE Try.underlying5 h
  exact byte_of hn
theorem isC_22 {cs : List AV} (h : IsC Try.prog 22 cs) : ∃ x : (Sl UInt8), cs = Row.cells x ∧ Row.fine x := by
  rcases IsC.sliceE Try.underlying22 h with rfl | ⟨rows, rfl, h1, h2⟩
  · exact ⟨none, rfl, Sl.fineNil⟩
  · exact Sl.isC (by kernel_rfl) h1 fun row hr => isC_5 (h2 row hr)
theorem own : ownKnob Try.prog.godebug = none := by kernel_rfl
theorem laidOut : laidOutB Try.prog = true := by kernel_rfl

set_option maxRecDepth 100000 in
theorem holds : Rows.FnBoundsSaid :=
  OpenClaim.holds_of_wide 3 Try.f3 rfl rfl rfl rfl rfl rfl rfl ⟨rfl, rfl, rfl, rfl, rfl⟩ rfl rfl rfl rfl rfl (by kernel_rfl) Try.func3 (by kernel_rfl)
    (of_decide_eq_true (by kernel_rfl)) (by unfold Func.isWrapper; rw [if_neg (by decide +kernel)]; exact ⟨rfl, rfl⟩)
    (fun os started H enc _ => law_lifted (C := Try.checked) (s := Rows.fnBoundsSpec) own started (by kernel_rfl) Try.func3
      (ChangeSpec.witness6 (enc := enc) (C := Try.checked) false ⟨#[], #[.slice none 0 0], []⟩ 8 (by kernel_rfl) (by kernel_rfl) (by kernel_rfl) (by kernel_rfl))
      laidOut rfl (tb := 4) rfl Try.underlying4 (ts := [22, 5]) (by kernel_rfl)
      (fun ds h => by match ds, h with | [d0], _ => rfl)
      hb_laws_FnBounds ok_laws_FnBounds (by
    intro l h
    obtain ⟨a0, l0, rfl, g0, k0⟩ := h
    cases k0
    obtain ⟨b0, e0, w0⟩ := isC_22 (isV_one (by kernel_rfl) g0)
    obtain rfl := one_enc e0
    exact law_FnBounds b0 w0) (by kernel_rfl))
#print axioms holds
end Go.Proofs.Ytpdkgjfefhiaiaa
