/-
  The law FnMeets holds, for all arguments: it returns true, and its arguments read behind the call as before. No condition.
-/
import Derived.Test.YtdklppipegepdaaFnMeetsPartA
import Derived.Test.YtdklppipegepdaaRows
namespace Go.Proofs.Ytdklppipegepdaa
open Go Go.Eng Go.Eng.Cod
set_option maxRecDepth 100000
set_option linter.unusedVariables false
set_option linter.unusedSimpArgs false

theorem ts_spec_DrawCrossingCount (env : Nat → Contract) (he_spec_l00From : env n_spec_l00From = .pure (C1 fromA (fun q : Sl UInt8 => some q))) (he_spec_l05Stroke : env n_spec_l05Stroke = .gen (denFn Try.prog ev_spec_l05Stroke n_spec_l05Stroke)) (code_ : Sl UInt8) : Sim (denFnM true Try.prog env n_spec_DrawCrossingCount [Sl.enc code_] []) (t_spec_DrawCrossingCount code_) fun c p => release p.2 depth p.1 = some ((fun c : Stroke × Stroke => AV.tup [AV.agg [rS c.1.points], AV.agg [rS c.2.points]]) c) := by
  have O := Hold.nil []
  generalize hB : (⟨[], []⟩ : Base) = B at O
  clear hB
  rw [e_spec_DrawCrossingCount]
  unfold t_spec_DrawCrossingCount
  refine sim_box O (cs := [nilS]) (by first | rfl | simp) (fun o1 h2 O3 => ?_)
  replace O3 : Hold B h2 [(AV.ptr o1 1 0 0, .pt 1 [nilS])] := O3
  refine sim_box O3 (cs := [nilS]) (by first | rfl | simp) (fun o5 h6 O7 => ?_)
  replace O7 : Hold B h6 [(AV.ptr o1 1 0 0, .pt 1 [nilS]), (AV.ptr o5 1 0 0, .pt 1 [nilS])] := O7
  refine sim_src O7 he_spec_l00From (snapD_enc _ _) (by first | rfl | exact noRef_enc _) (fun o9 h10 O11 => ?_)
  replace O11 : Hold B h10 [(AV.ptr o1 1 0 0, .pt 1 [nilS]), (AV.ptr o5 1 0 0, .pt 1 [nilS]), (AV.ptr o9 1 0 0, .pt 3 [Sl.enc code_, iv 0, AV.sc (.int .u64 0)])] := O11
  refine sim_gen he_spec_l05Stroke (tg_spec_l05Stroke (⟨code_, 0, 0⟩ : l00Src) (O11.start (i := 2) rfl rfl)) (fun c13 v14 h15 hq16 => ?_)
  obtain ⟨x19, e_v14, O17⟩ := hq16
  dsimp only at e_v14
  subst v14
  have O18 : Hold B h15 [(AV.ptr o1 1 0 0, .pt 1 [nilS]), (AV.ptr o5 1 0 0, .pt 1 [nilS]), (AV.ptr o9 1 0 0, .pt 3 [Sl.enc c13.2.code, iv c13.2.pos, AV.sc (.int .u64 c13.2.seed)]), (x19, obS (c13.1.points : Sl Point))] := O11.merge (i := 2) rfl rfl O17
  refine sim_box O18 (cs := [nilS]) (by first | rfl | simp) (fun o21 h22 O23 => ?_)
  replace O23 : Hold B h22 [(AV.ptr o1 1 0 0, .pt 1 [nilS]), (AV.ptr o5 1 0 0, .pt 1 [nilS]), (AV.ptr o9 1 0 0, .pt 3 [Sl.enc c13.2.code, iv c13.2.pos, AV.sc (.int .u64 c13.2.seed)]), (x19, obS (c13.1.points : Sl Point)), (AV.ptr o21 1 0 0, .pt 1 [nilS])] := O23
  refine sim_store O23 4 (cs' := [x19]) rfl (by first | rfl | simp [(O23.one (A := Point) (s := c13.1.points) 3 rfl).1, (O23.one (A := Point) (s := c13.1.points) 3 rfl).2]) (by simp) (by first | rfl | simp [(O23.one (A := Point) (s := c13.1.points) 3 rfl).1, (O23.one (A := Point) (s := c13.1.points) 3 rfl).2]) (by first | rfl | simp [splice, (O23.one (A := Point) (s := c13.1.points) 3 rfl).1, (O23.one (A := Point) (s := c13.1.points) 3 rfl).2]) (fun h25 O26 => ?_)
  replace O26 : Hold B h25 [(AV.ptr o1 1 0 0, .pt 1 [nilS]), (AV.ptr o5 1 0 0, .pt 1 [nilS]), (AV.ptr o9 1 0 0, .pt 3 [Sl.enc c13.2.code, iv c13.2.pos, AV.sc (.int .u64 c13.2.seed)]), (x19, obS (c13.1.points : Sl Point)), (AV.ptr o21 1 0 0, .pt 1 [x19])] := O26
  refine sim_let (v := AV.agg [x19]) (O26.ld 4 rfl true 1 0) ?_
  refine sim_gen he_spec_l05Stroke (tg_spec_l05Stroke c13.2 (O26.start (i := 2) rfl rfl)) (fun c27 v28 h29 hq30 => ?_)
  obtain ⟨x33, e_v28, O31⟩ := hq30
  dsimp only at e_v28
  subst v28
  have O32 : Hold B h29 [(AV.ptr o1 1 0 0, .pt 1 [nilS]), (AV.ptr o5 1 0 0, .pt 1 [nilS]), (AV.ptr o9 1 0 0, .pt 3 [Sl.enc c27.2.code, iv c27.2.pos, AV.sc (.int .u64 c27.2.seed)]), (x19, obS (c13.1.points : Sl Point)), (AV.ptr o21 1 0 0, .pt 1 [x19]), (x33, obS (c27.1.points : Sl Point))] := O26.merge (i := 2) rfl rfl O31
  refine sim_guardP O31.len ?_
  refine sim_store O32 0 (cs' := [x19]) rfl (by first | rfl | simp [(O32.one (A := Point) (s := c13.1.points) 3 rfl).1, (O32.one (A := Point) (s := c13.1.points) 3 rfl).2]) (by simp) (by first | rfl | simp [(O32.one (A := Point) (s := c13.1.points) 3 rfl).1, (O32.one (A := Point) (s := c13.1.points) 3 rfl).2]) (by first | rfl | simp [splice, (O32.one (A := Point) (s := c13.1.points) 3 rfl).1, (O32.one (A := Point) (s := c13.1.points) 3 rfl).2]) (fun h35 O36 => ?_)
  replace O36 : Hold B h35 [(AV.ptr o1 1 0 0, .pt 1 [x19]), (AV.ptr o5 1 0 0, .pt 1 [nilS]), (AV.ptr o9 1 0 0, .pt 3 [Sl.enc c27.2.code, iv c27.2.pos, AV.sc (.int .u64 c27.2.seed)]), (x19, obS (c13.1.points : Sl Point)), (AV.ptr o21 1 0 0, .pt 1 [x19]), (x33, obS (c27.1.points : Sl Point))] := O36
  refine sim_store O36 1 (cs' := [x33]) rfl (by first | rfl | simp [(O36.one (A := Point) (s := c27.1.points) 5 rfl).1, (O36.one (A := Point) (s := c27.1.points) 5 rfl).2]) (by simp) (by first | rfl | simp [(O36.one (A := Point) (s := c27.1.points) 5 rfl).1, (O36.one (A := Point) (s := c27.1.points) 5 rfl).2]) (by first | rfl | simp [splice, (O36.one (A := Point) (s := c27.1.points) 5 rfl).1, (O36.one (A := Point) (s := c27.1.points) 5 rfl).2]) (fun h37 O38 => ?_)
  replace O38 : Hold B h37 [(AV.ptr o1 1 0 0, .pt 1 [x19]), (AV.ptr o5 1 0 0, .pt 1 [x33]), (AV.ptr o9 1 0 0, .pt 3 [Sl.enc c27.2.code, iv c27.2.pos, AV.sc (.int .u64 c27.2.seed)]), (x19, obS (c13.1.points : Sl Point)), (AV.ptr o21 1 0 0, .pt 1 [x19]), (x33, obS (c27.1.points : Sl Point))] := O38
  refine sim_guardP ⟨⟨(at_of (v := AV.agg [x19]) (O26.ld 4 rfl true 1 0)), ⟨(at_of (v := AV.agg [x19]) (O32.ld 4 rfl true 1 0)), ⟨(at_of (v := AV.agg [x19]) (O36.ld 4 rfl true 1 0)), ⟨(at_of (v := AV.agg [x19]) (O38.ld 4 rfl true 1 0)), trivial⟩⟩⟩⟩, trivial⟩ ?_
  refine sim_retL (resL_c (v := AV.agg [x19]) (O38.ld 0 rfl true 1 0) (resL_c (v := AV.agg [x33]) (O38.ld 1 rfl true 1 0) (resL_nil _))) ?_
  dsimp only [pack]
  have O39 : Hold B h37 [(x19, obS (c13.1.points : Sl Point)), (x33, obS (c27.1.points : Sl Point))] := O38.sel [3, 5] (by decide) rfl
  exact sim_ret (release_of (by simp only [ids_tup, ids_aggD, ids_agg, ids_iv, ids_bv, ids_sv, ids_bt, ids_nilS, ids_enc, O39.idsD (A := Point) (s := c13.1.points) 0 rfl, O39.idsD (A := Point) (s := c27.1.points) 1 rfl, List.map_append, List.map_nil, List.flatMap_cons, List.flatMap_nil, List.append_nil, List.nil_append]; simpa only [List.flatMap_cons, List.flatMap_nil, List.append_nil, List.nil_append] using O39.nd2) (by simp only [rel_tup, rel_aggD, rel_agg, rel_iv, rel_bv, rel_sv, rel_bt, rel_nilS, rel_enc, O39.relD (A := Point) (s := c13.1.points) 0 rfl, O39.relD (A := Point) (s := c27.1.points) 1 rfl, omapc, omapn, obind_sm] <;> rfl))
theorem tt_spec_DrawCrossingCount : PureOK Try.prog n_spec_DrawCrossingCount (C1 (fun c : Stroke × Stroke => AV.tup [AV.agg [rS c.1.points], AV.agg [rS c.2.points]]) t_spec_DrawCrossingCount) := pureCW1 (Econs tt_spec_l00From (EconsG (gen_of_den eo_spec_l05Stroke mixed hb_spec_l05Stroke) E0)) mixed hb_spec_DrawCrossingCount fun code_ => ts_spec_DrawCrossingCount _ (by simp [envL]) (by simp [envL]) code_

def s0_impl_ValidStroke (s_ : Stroke) : Int → Option (Sum Int (Sum Unit Bool)) := fun w7 =>
  bif decide (w7 < (((s_.points.getD []).length : Nat) : Int)) then
    obind (getI (s_.points.getD []) w7) fun a21 =>
    obind (t_impl_validPoint a21) fun c31 =>
    obind (bif !c31 then some false else (some (decide (0 < w7)))) fun c33 =>
    obind (bif (!(!c31) && c33) then (obind (getI (s_.points.getD []) (wr (w7 - 1))) fun a37 => some (decide (a21.t ≤ a37.t))) else some false) fun c41 =>
    obind (bif !c31 then some false else (some (bif c33 then c41 else false))) fun c52 =>
    bif (bif !c31 then true else c52) then
      some (.inr (.inr false))
    else
      some (.inl (wr (w7 + 1)))
  else
    some (.inr (.inl ()))
def t_impl_ValidStroke (s_ : Stroke) : Option Bool :=
  obind (loopT (s0_impl_ValidStroke s_) 0) fun qq58 => match qq58 with
  | (.inl _) =>
      obind (bif decide (1 ≤ (((s_.points.getD []).length : Nat) : Int)) then (some (decide ((((s_.points.getD []).length : Nat) : Int) ≤ 60))) else some false) fun c14 =>
      some (bif decide (1 ≤ (((s_.points.getD []).length : Nat) : Int)) then c14 else false)
  | (.inr q17) =>
      some q17

theorem tl0_impl_ValidStroke (env : Nat → Contract) {B : Base} (he_impl_validPoint : env n_impl_validPoint = .pure (C1 (fun c : Bool => enc c) t_impl_validPoint)) (s_ : Stroke) (o1 : Nat)  {st : Int} {tm : TM} {h : Heap} (R : (fun (st : Int) tm h5 => match st with | w7 => tm = [AV.agg [Sl.enc s_.points], AV.ptr o1 1 0 0, AV.top, AV.top, AV.top, AV.ptr o1 1 0 0, Sl.enc s_.points, iv (((s_.points.getD []).length : Nat) : Int), iv w7, AV.top, AV.top, AV.top, AV.top, AV.top, AV.top, AV.top, AV.top, AV.top, AV.top, AV.top, AV.top, AV.top, AV.top, AV.top, AV.top, AV.top, AV.top, AV.top, AV.top, AV.top, AV.top, AV.top, AV.top, und, und, und, und, und, und, und, und, und, und] ∧ Hold B h5 [(AV.ptr o1 1 0 0, .pt 1 [Sl.enc s_.points])]) st tm h) : Sim (loopP hm0_impl_ValidStroke xm0_impl_ValidStroke (lb0_impl_ValidStroke env) tm h) (loopT (s0_impl_ValidStroke s_) st) (fun (q : Sum Unit Bool) (r : Res) => match q with | .inl _ => ∃ (z10 : AV) (z11 : AV) (z12 : AV) (h8 : Heap), r = (.exit 0, [AV.agg [Sl.enc s_.points], AV.ptr o1 1 0 0, z10, z11, z12, AV.ptr o1 1 0 0, Sl.enc s_.points, iv (((s_.points.getD []).length : Nat) : Int), AV.top, AV.top, AV.top, AV.top, AV.top, AV.top, AV.top, AV.top, AV.top, AV.top, AV.top, AV.top, AV.top, AV.top, AV.top, AV.top, AV.top, AV.top, AV.top, AV.top, AV.top, AV.top, AV.top, AV.top, AV.top, und, und, und, und, und, und, und, und, und, und], h8) ∧ Hold B h8 [(AV.ptr o1 1 0 0, .pt 1 [Sl.enc s_.points])] | .inr q17 => ∃ (q18 : Int) (z19 : AV) (h15 : Heap), r = (.ret, [AV.agg [Sl.enc s_.points], AV.ptr o1 1 0 0, bv q17, iv q18, z19, AV.ptr o1 1 0 0, Sl.enc s_.points, iv (((s_.points.getD []).length : Nat) : Int), AV.top, AV.top, AV.top, AV.top, AV.top, AV.top, AV.top, AV.top, AV.top, AV.top, AV.top, AV.top, AV.top, AV.top, AV.top, AV.top, AV.top, AV.top, AV.top, AV.top, AV.top, AV.top, AV.top, AV.top, AV.top, und, und, und, und, und, und, und, und, und, und], h15) ∧ Hold B h15 [(AV.ptr o1 1 0 0, .pt 1 [Sl.enc s_.points])]) := by
  refine loop_sim (Rel := fun (st : Int) tm h5 => match st with | w7 => tm = [AV.agg [Sl.enc s_.points], AV.ptr o1 1 0 0, AV.top, AV.top, AV.top, AV.ptr o1 1 0 0, Sl.enc s_.points, iv (((s_.points.getD []).length : Nat) : Int), iv w7, AV.top, AV.top, AV.top, AV.top, AV.top, AV.top, AV.top, AV.top, AV.top, AV.top, AV.top, AV.top, AV.top, AV.top, AV.top, AV.top, AV.top, AV.top, AV.top, AV.top, AV.top, AV.top, AV.top, AV.top, und, und, und, und, und, und, und, und, und, und] ∧ Hold B h5 [(AV.ptr o1 1 0 0, .pt 1 [Sl.enc s_.points])]) (fun w7 tm h5 R => ?_) R
  obtain ⟨rfl, O6⟩ := R
  rw [e_lb0_impl_ValidStroke]
  unfold s0_impl_ValidStroke
  dsimp only
  refine sim_let (v := bv (decide (w7 < (((s_.points.getD []).length : Nat) : Int)))) (aBin_lss _ _) ?_
  refine sim_cond (fun c20 => ?_) (fun c20 => ?_)
  · refine sim_get (Tab.enc h5 s_.points) (fun m22 a21 hi23 hm24 => ?_)
    refine sim_let (v := AV.agg [iv a21.x, iv a21.y, iv a21.t]) ((Tab.enc h5 s_.points).ld hm24 true 3 0) ?_
    refine sim_box O6 (cs := [iv 0, iv 0, iv 0]) (by first | rfl | simp) (fun o25 h26 O27 => ?_)
    replace O27 : Hold B h26 [(AV.ptr o1 1 0 0, .pt 1 [Sl.enc s_.points]), (AV.ptr o25 1 0 0, .pt 3 [iv 0, iv 0, iv 0])] := O27
    refine sim_store O27 1 (cs' := [iv a21.x, iv a21.y, iv a21.t]) rfl (by first | rfl | simp) (by simp) (by first | rfl | simp) (by first | rfl | simp [splice]) (fun h29 O30 => ?_)
    replace O30 : Hold B h29 [(AV.ptr o1 1 0 0, .pt 1 [Sl.enc s_.points]), (AV.ptr o25 1 0 0, .pt 3 [iv a21.x, iv a21.y, iv a21.t])] := O30
    refine sim_let (v := AV.agg [iv a21.x, iv a21.y, iv a21.t]) (O30.ld 1 rfl true 3 0) ?_
    refine sim_callQ1 he_impl_validPoint (snapD_nr _ a21 rfl) (fun c31 => ?_)
    refine sim_let2 (hand_plain (by rfl) _ _) ?_
    refine sim_let (v := bv (!c31)) (aUn_not _) ?_
    refine sim_g3F (e := bv) (fun hb32 => ?_) (fun y34 y35 c33 => ?_)
    · refine sim_o0 ?_
      refine sim_o1 ?_
      refine sim_let (v := bv (decide (0 < w7))) (aBin_gtr _ _) ?_
      refine sim_o0 ?_
      exact sim_ret rfl
    · simp only [gv_FT]
      refine sim_g10T (e := bv) (fun hb36 => ?_) (fun y42 y43 y44 y45 y46 y47 y48 y49 y50 c41 => ?_)
      · refine sim_o1 ?_
        refine sim_let (v := AV.ptr o25 1 0 2) rfl ?_
        refine sim_o0 ?_
        refine sim_o1 ?_
        refine sim_let (v := iv a21.t) (O30.ld 1 rfl false 1 2) ?_
        refine sim_o0 ?_
        refine sim_o1 ?_
        refine sim_let (v := AV.ptr o1 1 0 0) rfl ?_
        refine sim_o0 ?_
        refine sim_o1 ?_
        refine sim_let (v := Sl.enc s_.points) (O30.ld 0 rfl false 1 0) ?_
        refine sim_o0 ?_
        refine sim_o0 ?_
        refine sim_o1 ?_
        refine sim_let (v := iv (wr (w7 - 1))) (aBin_sub _ _) ?_
        refine sim_o0 ?_
        refine sim_o1 ?_
        refine sim_get (Tab.enc h29 s_.points) (fun m38 a37 hi39 hm40 => ?_)
        refine sim_o0 ?_
        refine sim_o1 ?_
        refine sim_let (v := elp (Sl.enc s_.points) m38 2) ((Tab.enc h29 s_.points).fld _ _ _) ?_
        refine sim_o0 ?_
        refine sim_o1 ?_
        refine sim_let (v := iv a37.t) ((Tab.enc h29 s_.points).ld hm40 false 1 2) ?_
        refine sim_o0 ?_
        refine sim_let (v := bv (decide (a21.t ≤ a37.t))) (aBin_leq _ _) ?_
        exact sim_ret rfl
      · refine sim_guardF (e := bv) (fun hb51 => ?_) (fun c52 => ?_)
        · simp only [hb51, cond_true, cond_false, Bool.not_true, Bool.not_false, Bool.true_and, Bool.and_true, Bool.false_and, Bool.not_not]
          refine sim_let (v := bv (bif c33 then c41 else false)) (pick_b _ _ _) ?_
          exact sim_ret rfl
        · refine sim_let (v := bv (bif !c31 then true else c52)) (pick_b' _ _ _) ?_
          refine sim_cond (fun c53 => ?_) (fun c53 => ?_)
          · have O54 : Hold B h29 [(AV.ptr o1 1 0 0, .pt 1 [Sl.enc s_.points])] := O30.sel [0] (by decide) rfl
            exact sim_ret ⟨nofun, _, _, _, rfl, O54⟩
          · refine sim_let (v := iv (wr (w7 + 1))) (aBin_add _ _) ?_
            have O55 : Hold B h29 [(AV.ptr o1 1 0 0, .pt 1 [Sl.enc s_.points])] := O30.sel [0] (by decide) rfl
            exact sim_ret ⟨rfl, rfl, O55⟩
  · exact sim_ret ⟨nofun, _, _, _, _, rfl, O6⟩
theorem ts_impl_ValidStroke (env : Nat → Contract) (he_impl_validPoint : env n_impl_validPoint = .pure (C1 (fun c : Bool => enc c) t_impl_validPoint)) (s_ : Stroke) : Sim (denFn Try.prog env n_impl_ValidStroke [AV.agg [Sl.enc s_.points]] []) (t_impl_ValidStroke s_) fun c p => release p.2 depth p.1 = some ((fun c : Bool => enc c) c) := by
  have O := Hold.nil []
  generalize hB : (⟨[], []⟩ : Base) = B at O
  clear hB
  rw [e_impl_ValidStroke]
  unfold t_impl_ValidStroke
  refine sim_box O (cs := [Sl.enc s_.points]) (by first | rfl | simp) (fun o1 h2 O3 => ?_)
  replace O3 : Hold B h2 [(AV.ptr o1 1 0 0, .pt 1 [Sl.enc s_.points])] := O3
  refine sim_let (v := AV.ptr o1 1 0 0) rfl ?_
  refine sim_let (v := Sl.enc s_.points) (O3.ld 0 rfl false 1 0) ?_
  refine sim_let (v := iv (((s_.points.getD []).length : Nat) : Int)) (Tab.enc h2 s_.points).len ?_
  refine sim_bind ((tl0_impl_ValidStroke env he_impl_validPoint s_ o1) ⟨rfl, O3⟩) (fun qq58 r hq => ?_)
  rcases qq58 with _ | q17
  · obtain ⟨z10, z11, z12, h8, rfl, O9⟩ := hq
    rw [e_lk0x0_impl_ValidStroke]
    refine sim_let (v := AV.ptr o1 1 0 0) rfl ?_
    refine sim_let (v := Sl.enc s_.points) (O9.ld 0 rfl false 1 0) ?_
    refine sim_let (v := iv (((s_.points.getD []).length : Nat) : Int)) (Tab.enc h8 s_.points).len ?_
    refine sim_let (v := bv (decide (1 ≤ (((s_.points.getD []).length : Nat) : Int)))) (aBin_geq _ _) ?_
    refine sim_guardT (e := bv) (fun hb13 => ?_) (fun c14 => ?_)
    · refine sim_let (v := AV.ptr o1 1 0 0) rfl ?_
      refine sim_let (v := Sl.enc s_.points) (O9.ld 0 rfl false 1 0) ?_
      refine sim_let (v := iv (((s_.points.getD []).length : Nat) : Int)) (Tab.enc h8 s_.points).len ?_
      refine sim_let (v := bv (decide ((((s_.points.getD []).length : Nat) : Int) ≤ 60))) (aBin_leq _ _) ?_
      exact sim_ret rfl
    · refine sim_let (v := bv (bif decide (1 ≤ (((s_.points.getD []).length : Nat) : Int)) then c14 else false)) (pick_b _ _ _) ?_
      exact sim_ret (release_plain (by rfl) _)
  · obtain ⟨q18, z19, h15, rfl, O16⟩ := hq
    rw [e_lk0r_impl_ValidStroke]
    exact sim_ret (release_plain (by rfl) _)
theorem tt_impl_ValidStroke : PureOK Try.prog n_impl_ValidStroke (C1 (fun c : Bool => enc c) t_impl_ValidStroke) := pureC1 (Econs tt_impl_validPoint E0) mixed hb_impl_ValidStroke fun s_ => ts_impl_ValidStroke _ (by simp [envL]) s_

def s1_impl_CrossingCount (s_ : Stroke) (t_ : Stroke) (w17 : Int) : (Int × Int) → Option (Sum (Int × Int) Int) := fun (w26, w27) =>
  bif decide (w27 < (((t_.points.getD []).length : Nat) : Int)) then
    obind (getI (s_.points.getD []) (wr (w17 - 1))) fun a34 =>
    obind (getI (s_.points.getD []) w17) fun a38 =>
    obind (getI (t_.points.getD []) (wr (w27 - 1))) fun a42 =>
    obind (getI (t_.points.getD []) w27) fun a46 =>
    obind (t_impl_meet a34 a38 a42 a46) fun c50 =>
    bif c50 then
      some (.inl (wr (w26 + 1), wr (w27 + 1)))
    else
      some (.inl (w26, wr (w27 + 1)))
  else
    some (.inr w26)
def s0_impl_CrossingCount (s_ : Stroke) (t_ : Stroke) : (Int × Int) → Option (Sum (Int × Int) Int) := fun (w16, w17) =>
  bif decide (w17 < (((s_.points.getD []).length : Nat) : Int)) then
    obind (loopT (s1_impl_CrossingCount s_ t_ w17) (w16, 1)) fun q30 =>
    some (.inl (q30, wr (w17 + 1)))
  else
    some (.inr w16)
def t_impl_CrossingCount (s_ : Stroke) (t_ : Stroke) : Option (Int × Int) :=
  obind (t_impl_ValidStroke s_) fun c9 =>
  obind (bif !c9 then some false else (obind (t_impl_ValidStroke t_) fun c11 => some (!c11))) fun c12 =>
  bif (bif !c9 then true else c12) then
    some (0, 1)
  else
    obind (loopT (s0_impl_CrossingCount s_ t_) (0, 1)) fun q20 =>
    some (q20, 0)

theorem tl1_impl_CrossingCount (env : Nat → Contract) {B : Base} (he_impl_ValidStroke : env n_impl_ValidStroke = .pure (C1 (fun c : Bool => enc c) t_impl_ValidStroke)) (he_impl_meet : env n_impl_meet = .pure (C4 (fun c : Bool => enc c) t_impl_meet)) (s_ : Stroke) (t_ : Stroke) (o1 : Nat) (o5 : Nat) (c9 : Bool) (c12 : Bool) (w17 : Int)  {st : Int × Int} {tm : TM} {h : Heap} (R : (fun (st : Int × Int) tm h24 => match st with | (w26, w27) => tm = [AV.agg [Sl.enc s_.points], AV.agg [Sl.enc t_.points], AV.ptr o1 1 0 0, AV.ptr o5 1 0 0, iv 0, iv 0, iv w26, iv w17, iv w27, AV.agg [Sl.enc s_.points], bv c9, bv (!c9), bv (!c9), AV.top, AV.top, cond (!c9) und (bv c12), bv (bif !c9 then true else c12), iv w17, AV.ptr o1 1 0 0, Sl.enc s_.points, iv (((s_.points.getD []).length : Nat) : Int), bv (decide (w17 < (((s_.points.getD []).length : Nat) : Int))), AV.top, AV.top, AV.top, AV.top, AV.top, AV.top, AV.top, AV.top, AV.top, AV.top, AV.top, AV.top, AV.top, AV.top, AV.top, AV.top, AV.top, AV.top, AV.top, AV.top, AV.top, AV.top, AV.top, AV.top, AV.top, AV.top, AV.top, AV.top, AV.top, AV.top, AV.top, AV.top, AV.top, AV.top, und] ∧ Hold B h24 [(AV.ptr o1 1 0 0, .pt 1 [Sl.enc s_.points]), (AV.ptr o5 1 0 0, .pt 1 [Sl.enc t_.points])]) st tm h) : Sim (loopP hm1_impl_CrossingCount xm1_impl_CrossingCount (lb1_impl_CrossingCount env) tm h) (loopT (s1_impl_CrossingCount s_ t_ w17) st) (fun (q : Int) (r : Res) => match q with | q30 => ∃ (q31 : Int) (h28 : Heap), r = (.exit 2, [AV.agg [Sl.enc s_.points], AV.agg [Sl.enc t_.points], AV.ptr o1 1 0 0, AV.ptr o5 1 0 0, iv 0, iv 0, iv q30, iv w17, iv q31, AV.agg [Sl.enc s_.points], bv c9, bv (!c9), bv (!c9), AV.top, AV.top, cond (!c9) und (bv c12), bv (bif !c9 then true else c12), iv w17, AV.ptr o1 1 0 0, Sl.enc s_.points, iv (((s_.points.getD []).length : Nat) : Int), bv (decide (w17 < (((s_.points.getD []).length : Nat) : Int))), AV.top, AV.top, AV.top, AV.top, AV.top, AV.top, AV.top, AV.top, AV.top, AV.top, AV.top, AV.top, AV.top, AV.top, AV.top, AV.top, AV.top, AV.top, AV.top, AV.top, AV.top, AV.top, AV.top, AV.top, AV.top, AV.top, AV.top, AV.top, AV.top, AV.top, AV.top, AV.top, AV.top, AV.top, und], h28) ∧ Hold B h28 [(AV.ptr o1 1 0 0, .pt 1 [Sl.enc s_.points]), (AV.ptr o5 1 0 0, .pt 1 [Sl.enc t_.points])]) := by
  refine loop_sim (Rel := fun (st : Int × Int) tm h24 => match st with | (w26, w27) => tm = [AV.agg [Sl.enc s_.points], AV.agg [Sl.enc t_.points], AV.ptr o1 1 0 0, AV.ptr o5 1 0 0, iv 0, iv 0, iv w26, iv w17, iv w27, AV.agg [Sl.enc s_.points], bv c9, bv (!c9), bv (!c9), AV.top, AV.top, cond (!c9) und (bv c12), bv (bif !c9 then true else c12), iv w17, AV.ptr o1 1 0 0, Sl.enc s_.points, iv (((s_.points.getD []).length : Nat) : Int), bv (decide (w17 < (((s_.points.getD []).length : Nat) : Int))), AV.top, AV.top, AV.top, AV.top, AV.top, AV.top, AV.top, AV.top, AV.top, AV.top, AV.top, AV.top, AV.top, AV.top, AV.top, AV.top, AV.top, AV.top, AV.top, AV.top, AV.top, AV.top, AV.top, AV.top, AV.top, AV.top, AV.top, AV.top, AV.top, AV.top, AV.top, AV.top, AV.top, AV.top, und] ∧ Hold B h24 [(AV.ptr o1 1 0 0, .pt 1 [Sl.enc s_.points]), (AV.ptr o5 1 0 0, .pt 1 [Sl.enc t_.points])]) (fun st tm h24 R => ?_) R
  obtain ⟨w26, w27⟩ := st
  obtain ⟨rfl, O25⟩ := R
  rw [e_lb1_impl_CrossingCount]
  unfold s1_impl_CrossingCount
  dsimp only
  refine sim_let (v := AV.ptr o5 1 0 0) rfl ?_
  refine sim_let (v := Sl.enc t_.points) (O25.ld 1 rfl false 1 0) ?_
  refine sim_let (v := iv (((t_.points.getD []).length : Nat) : Int)) (Tab.enc h24 t_.points).len ?_
  refine sim_let (v := bv (decide (w27 < (((t_.points.getD []).length : Nat) : Int)))) (aBin_lss _ _) ?_
  refine sim_cond (fun c33 => ?_) (fun c33 => ?_)
  · refine sim_let (v := AV.ptr o1 1 0 0) rfl ?_
    refine sim_let (v := Sl.enc s_.points) (O25.ld 0 rfl false 1 0) ?_
    refine sim_let (v := iv (wr (w17 - 1))) (aBin_sub _ _) ?_
    refine sim_get (Tab.enc h24 s_.points) (fun m35 a34 hi36 hm37 => ?_)
    refine sim_let (v := AV.agg [iv a34.x, iv a34.y, iv a34.t]) ((Tab.enc h24 s_.points).ld hm37 true 3 0) ?_
    refine sim_let (v := AV.ptr o1 1 0 0) rfl ?_
    refine sim_let (v := Sl.enc s_.points) (O25.ld 0 rfl false 1 0) ?_
    refine sim_get (Tab.enc h24 s_.points) (fun m39 a38 hi40 hm41 => ?_)
    refine sim_let (v := AV.agg [iv a38.x, iv a38.y, iv a38.t]) ((Tab.enc h24 s_.points).ld hm41 true 3 0) ?_
    refine sim_let (v := AV.ptr o5 1 0 0) rfl ?_
    refine sim_let (v := Sl.enc t_.points) (O25.ld 1 rfl false 1 0) ?_
    refine sim_let (v := iv (wr (w27 - 1))) (aBin_sub _ _) ?_
    refine sim_get (Tab.enc h24 t_.points) (fun m43 a42 hi44 hm45 => ?_)
    refine sim_let (v := AV.agg [iv a42.x, iv a42.y, iv a42.t]) ((Tab.enc h24 t_.points).ld hm45 true 3 0) ?_
    refine sim_let (v := AV.ptr o5 1 0 0) rfl ?_
    refine sim_let (v := Sl.enc t_.points) (O25.ld 1 rfl false 1 0) ?_
    refine sim_get (Tab.enc h24 t_.points) (fun m47 a46 hi48 hm49 => ?_)
    refine sim_let (v := AV.agg [iv a46.x, iv a46.y, iv a46.t]) ((Tab.enc h24 t_.points).ld hm49 true 3 0) ?_
    refine sim_callQ4 he_impl_meet (snapD_nr _ a34 rfl) (snapD_nr _ a38 rfl) (snapD_nr _ a42 rfl) (snapD_nr _ a46 rfl) (fun c50 => ?_)
    refine sim_let2 (hand_plain (by rfl) _ _) ?_
    refine sim_cond (fun c51 => ?_) (fun c51 => ?_)
    · refine sim_let (v := iv (wr (w26 + 1))) (aBin_add _ _) ?_
      refine sim_let (v := iv (wr (w27 + 1))) (aBin_add _ _) ?_
      exact sim_ret ⟨rfl, rfl, O25⟩
    · refine sim_let (v := iv (wr (w27 + 1))) (aBin_add _ _) ?_
      exact sim_ret ⟨rfl, rfl, O25⟩
  · exact sim_ret ⟨nofun, _, _, rfl, O25⟩
theorem tl0_impl_CrossingCount (env : Nat → Contract) {B : Base} (he_impl_ValidStroke : env n_impl_ValidStroke = .pure (C1 (fun c : Bool => enc c) t_impl_ValidStroke)) (he_impl_meet : env n_impl_meet = .pure (C4 (fun c : Bool => enc c) t_impl_meet)) (s_ : Stroke) (t_ : Stroke) (o1 : Nat) (o5 : Nat) (c9 : Bool) (c12 : Bool)  {st : Int × Int} {tm : TM} {h : Heap} (R : (fun (st : Int × Int) tm h14 => match st with | (w16, w17) => tm = [AV.agg [Sl.enc s_.points], AV.agg [Sl.enc t_.points], AV.ptr o1 1 0 0, AV.ptr o5 1 0 0, iv 0, iv 0, iv w16, iv w17, AV.top, AV.agg [Sl.enc s_.points], bv c9, bv (!c9), bv (!c9), AV.top, AV.top, cond (!c9) und (bv c12), bv (bif !c9 then true else c12), AV.top, AV.top, AV.top, AV.top, AV.top, AV.top, AV.top, AV.top, AV.top, AV.top, AV.top, AV.top, AV.top, AV.top, AV.top, AV.top, AV.top, AV.top, AV.top, AV.top, AV.top, AV.top, AV.top, AV.top, AV.top, AV.top, AV.top, AV.top, AV.top, AV.top, AV.top, AV.top, AV.top, AV.top, AV.top, AV.top, AV.top, AV.top, AV.top, und] ∧ Hold B h14 [(AV.ptr o1 1 0 0, .pt 1 [Sl.enc s_.points]), (AV.ptr o5 1 0 0, .pt 1 [Sl.enc t_.points])]) st tm h) : Sim (loopP hm0_impl_CrossingCount xm0_impl_CrossingCount (lb0_impl_CrossingCount env) tm h) (loopT (s0_impl_CrossingCount s_ t_) st) (fun (q : Int) (r : Res) => match q with | q20 => ∃ (q21 : Int) (z22 : AV) (h18 : Heap), r = (.exit 0, [AV.agg [Sl.enc s_.points], AV.agg [Sl.enc t_.points], AV.ptr o1 1 0 0, AV.ptr o5 1 0 0, iv 0, iv 0, iv q20, iv q21, z22, AV.agg [Sl.enc s_.points], bv c9, bv (!c9), bv (!c9), AV.top, AV.top, cond (!c9) und (bv c12), bv (bif !c9 then true else c12), AV.top, AV.top, AV.top, AV.top, AV.top, AV.top, AV.top, AV.top, AV.top, AV.top, AV.top, AV.top, AV.top, AV.top, AV.top, AV.top, AV.top, AV.top, AV.top, AV.top, AV.top, AV.top, AV.top, AV.top, AV.top, AV.top, AV.top, AV.top, AV.top, AV.top, AV.top, AV.top, AV.top, AV.top, AV.top, AV.top, AV.top, AV.top, AV.top, und], h18) ∧ Hold B h18 [(AV.ptr o1 1 0 0, .pt 1 [Sl.enc s_.points]), (AV.ptr o5 1 0 0, .pt 1 [Sl.enc t_.points])]) := by
  refine loop_sim (Rel := fun (st : Int × Int) tm h14 => match st with | (w16, w17) => tm = [AV.agg [Sl.enc s_.points], AV.agg [Sl.enc t_.points], AV.ptr o1 1 0 0, AV.ptr o5 1 0 0, iv 0, iv 0, iv w16, iv w17, AV.top, AV.agg [Sl.enc s_.points], bv c9, bv (!c9), bv (!c9), AV.top, AV.top, cond (!c9) und (bv c12), bv (bif !c9 then true else c12), AV.top, AV.top, AV.top, AV.top, AV.top, AV.top, AV.top, AV.top, AV.top, AV.top, AV.top, AV.top, AV.top, AV.top, AV.top, AV.top, AV.top, AV.top, AV.top, AV.top, AV.top, AV.top, AV.top, AV.top, AV.top, AV.top, AV.top, AV.top, AV.top, AV.top, AV.top, AV.top, AV.top, AV.top, AV.top, AV.top, AV.top, AV.top, AV.top, und] ∧ Hold B h14 [(AV.ptr o1 1 0 0, .pt 1 [Sl.enc s_.points]), (AV.ptr o5 1 0 0, .pt 1 [Sl.enc t_.points])]) (fun st tm h14 R => ?_) R
  obtain ⟨w16, w17⟩ := st
  obtain ⟨rfl, O15⟩ := R
  rw [e_lb0_impl_CrossingCount]
  unfold s0_impl_CrossingCount
  dsimp only
  refine sim_let (v := AV.ptr o1 1 0 0) rfl ?_
  refine sim_let (v := Sl.enc s_.points) (O15.ld 0 rfl false 1 0) ?_
  refine sim_let (v := iv (((s_.points.getD []).length : Nat) : Int)) (Tab.enc h14 s_.points).len ?_
  refine sim_let (v := bv (decide (w17 < (((s_.points.getD []).length : Nat) : Int)))) (aBin_lss _ _) ?_
  refine sim_cond (fun c23 => ?_) (fun c23 => ?_)
  · refine sim_bind ((tl1_impl_CrossingCount env he_impl_ValidStroke he_impl_meet s_ t_ o1 o5 c9 c12 w17) ⟨rfl, O15⟩) (fun qq56 r hq => ?_)
    revert hq
    revert qq56
    intro q30 hq
    obtain ⟨q31, h28, rfl, O29⟩ := hq
    rw [e_lk1x2_impl_CrossingCount]
    refine sim_let (v := iv (wr (w17 + 1))) (aBin_add _ _) ?_
    exact sim_ret ⟨rfl, rfl, O29⟩
  · exact sim_ret ⟨nofun, _, _, _, rfl, O15⟩
theorem ts_impl_CrossingCount (env : Nat → Contract) (he_impl_ValidStroke : env n_impl_ValidStroke = .pure (C1 (fun c : Bool => enc c) t_impl_ValidStroke)) (he_impl_meet : env n_impl_meet = .pure (C4 (fun c : Bool => enc c) t_impl_meet)) (s_ : Stroke) (t_ : Stroke) : Sim (denFn Try.prog env n_impl_CrossingCount [AV.agg [Sl.enc s_.points], AV.agg [Sl.enc t_.points]] []) (t_impl_CrossingCount s_ t_) fun c p => release p.2 depth p.1 = some ((fun c : Int × Int => AV.tup [enc c.1, enc c.2]) c) := by
  have O := Hold.nil []
  generalize hB : (⟨[], []⟩ : Base) = B at O
  clear hB
  rw [e_impl_CrossingCount]
  unfold t_impl_CrossingCount
  refine sim_box O (cs := [Sl.enc s_.points]) (by first | rfl | simp) (fun o1 h2 O3 => ?_)
  replace O3 : Hold B h2 [(AV.ptr o1 1 0 0, .pt 1 [Sl.enc s_.points])] := O3
  refine sim_box O3 (cs := [Sl.enc t_.points]) (by first | rfl | simp) (fun o5 h6 O7 => ?_)
  replace O7 : Hold B h6 [(AV.ptr o1 1 0 0, .pt 1 [Sl.enc s_.points]), (AV.ptr o5 1 0 0, .pt 1 [Sl.enc t_.points])] := O7
  refine sim_let (v := AV.agg [Sl.enc s_.points]) (O7.ld 0 rfl true 1 0) ?_
  refine sim_call1 he_impl_ValidStroke (snapD_nr _ s_ rfl) (fun c9 => ?_)
  refine sim_let2 (hand_plain (by rfl) _ _) ?_
  refine sim_let (v := bv (!c9)) (aUn_not _) ?_
  refine sim_guardF (e := bv) (fun hb10 => ?_) (fun c12 => ?_)
  · refine sim_let (v := AV.agg [Sl.enc t_.points]) (O7.ld 1 rfl true 1 0) ?_
    refine sim_call1 he_impl_ValidStroke (snapD_nr _ t_ rfl) (fun c11 => ?_)
    refine sim_let2 (hand_plain (by rfl) _ _) ?_
    refine sim_let (v := bv (!c11)) (aUn_not _) ?_
    exact sim_ret rfl
  · refine sim_let (v := bv (bif !c9 then true else c12)) (pick_b' _ _ _) ?_
    refine sim_cond (fun c13 => ?_) (fun c13 => ?_)
    · exact sim_ret (release_plain (by rfl) _)
    · refine sim_bind ((tl0_impl_CrossingCount env he_impl_ValidStroke he_impl_meet s_ t_ o1 o5 c9 c12) ⟨rfl, O7⟩) (fun qq59 r hq => ?_)
      revert hq
      revert qq59
      intro q20 hq
      obtain ⟨q21, z22, h18, rfl, O19⟩ := hq
      rw [e_lk0x0_impl_CrossingCount]
      exact sim_ret (release_plain (by rfl) _)
theorem tt_impl_CrossingCount : PureOK Try.prog n_impl_CrossingCount (C2 (fun c : Int × Int => AV.tup [enc c.1, enc c.2]) t_impl_CrossingCount) := pureC2 (Econs tt_impl_ValidStroke (Econs tt_impl_meet E0)) mixed hb_impl_CrossingCount fun s_ t_ => ts_impl_CrossingCount _ (by simp [envL]) (by simp [envL]) s_ t_

def s0_spec_l02Stroke (s_ : Stroke) : Int → Option (Sum Int (Sum Unit Bool)) := fun w3 =>
  bif decide (w3 < (((s_.points.getD []).length : Nat) : Int)) then
    obind (getI (s_.points.getD []) w3) fun a14 =>
    obind (t_spec_l02Point a14) fun c18 =>
    obind (bif !c18 then some false else (some (decide (0 < w3)))) fun c20 =>
    obind (bif (!(!c18) && c20) then (obind (getI (s_.points.getD []) w3) fun a24 => obind (getI (s_.points.getD []) (wr (w3 - 1))) fun a28 => some (decide (a24.t ≤ a28.t))) else some false) fun c32 =>
    obind (bif !c18 then some false else (some (bif c20 then c32 else false))) fun c51 =>
    bif (bif !c18 then true else c51) then
      some (.inr (.inr false))
    else
      some (.inl (wr (w3 + 1)))
  else
    some (.inr (.inl ()))
def t_spec_l02Stroke (s_ : Stroke) : Option Bool :=
  obind (loopT (s0_spec_l02Stroke s_) 0) fun qq57 => match qq57 with
  | (.inl _) =>
      obind (some (within (((s_.points.getD []).length : Nat) : Int) 1 60)) fun c8 =>
      some c8
  | (.inr q11) =>
      some q11
def tp_spec_l02Stroke (s_p : Pt Stroke) : Option Bool := obind s_p.get fun s_ => t_spec_l02Stroke s_

theorem tl0_spec_l02Stroke (env : Nat → Contract) {B : Base} (he_spec_l00In : env n_spec_l00In = .pure (T3 within)) (he_spec_l02Point : env n_spec_l02Point = .pure (C1 (fun c : Bool => enc c) t_spec_l02Point)) (s_ : Stroke) (s_p : Pt Stroke) (hp_s_ : s_p.get = some s_)  {st : Int} {tm : TM} {h : Heap} (R : (fun (st : Int) tm h1 => match st with | w3 => tm = [AV.fptr (Row.w Stroke) (s_p.tab.map Row.cells) s_p.i 0, und, AV.top, iv w3, AV.top, AV.top, AV.top, AV.top, AV.top, AV.top, AV.top, AV.top, AV.top, AV.top, AV.top, AV.top, AV.top, AV.top, AV.top, AV.top, AV.top, AV.top, AV.top, AV.top, AV.top, AV.top, AV.top, AV.top, AV.top, AV.top, AV.top, AV.top, AV.top, AV.top, AV.top, AV.top, AV.top, AV.top, AV.top, AV.top, AV.top, AV.top, AV.top, AV.top, AV.top, AV.top, und, und, und, und, und, und] ∧ Hold B h1 []) st tm h) : Sim (loopP hm0_spec_l02Stroke xm0_spec_l02Stroke (lb0_spec_l02Stroke env) tm h) (loopT (s0_spec_l02Stroke s_) st) (fun (q : Sum Unit Bool) (r : Res) => match q with | .inl _ => ∃ (q7 : Int) (z6 : AV) (h4 : Heap), r = (.exit 0, [AV.fptr (Row.w Stroke) (s_p.tab.map Row.cells) s_p.i 0, und, z6, iv q7, AV.top, AV.top, AV.top, AV.top, AV.top, AV.top, AV.top, AV.top, AV.top, AV.top, AV.top, AV.top, AV.top, AV.top, AV.top, AV.top, AV.top, AV.top, AV.top, AV.top, AV.top, AV.top, AV.top, AV.top, AV.top, AV.top, AV.top, AV.top, AV.top, AV.top, AV.top, AV.top, AV.top, AV.top, AV.top, AV.top, AV.top, AV.top, AV.top, AV.top, AV.top, AV.top, und, und, und, und, und, und], h4) ∧ Hold B h4 [] | .inr q11 => ∃ (q12 : Int) (h9 : Heap), r = (.ret, [AV.fptr (Row.w Stroke) (s_p.tab.map Row.cells) s_p.i 0, und, bv q11, iv q12, AV.top, AV.top, AV.top, AV.top, AV.top, AV.top, AV.top, AV.top, AV.top, AV.top, AV.top, AV.top, AV.top, AV.top, AV.top, AV.top, AV.top, AV.top, AV.top, AV.top, AV.top, AV.top, AV.top, AV.top, AV.top, AV.top, AV.top, AV.top, AV.top, AV.top, AV.top, AV.top, AV.top, AV.top, AV.top, AV.top, AV.top, AV.top, AV.top, AV.top, AV.top, AV.top, und, und, und, und, und, und], h9) ∧ Hold B h9 []) := by
  refine loop_sim (Rel := fun (st : Int) tm h1 => match st with | w3 => tm = [AV.fptr (Row.w Stroke) (s_p.tab.map Row.cells) s_p.i 0, und, AV.top, iv w3, AV.top, AV.top, AV.top, AV.top, AV.top, AV.top, AV.top, AV.top, AV.top, AV.top, AV.top, AV.top, AV.top, AV.top, AV.top, AV.top, AV.top, AV.top, AV.top, AV.top, AV.top, AV.top, AV.top, AV.top, AV.top, AV.top, AV.top, AV.top, AV.top, AV.top, AV.top, AV.top, AV.top, AV.top, AV.top, AV.top, AV.top, AV.top, AV.top, AV.top, AV.top, AV.top, und, und, und, und, und, und] ∧ Hold B h1 []) (fun w3 tm h1 R => ?_) R
  obtain ⟨rfl, O2⟩ := R
  rw [e_lb0_spec_l02Stroke]
  unfold s0_spec_l02Stroke
  dsimp only
  refine sim_let (v := AV.fptr (Row.w Stroke) (s_p.tab.map Row.cells) s_p.i 0) rfl ?_
  refine sim_let (v := AV.fptr (Row.w Stroke) (s_p.tab.map Row.cells) s_p.i 0) rfl ?_
  refine sim_let (v := Sl.enc s_.points) (ld_pt hp_s_ false 1 0) ?_
  refine sim_let (v := iv (((s_.points.getD []).length : Nat) : Int)) (Tab.enc h1 s_.points).len ?_
  refine sim_let (v := bv (decide (w3 < (((s_.points.getD []).length : Nat) : Int)))) (aBin_lss _ _) ?_
  refine sim_cond (fun c13 => ?_) (fun c13 => ?_)
  · refine sim_let (v := AV.fptr (Row.w Stroke) (s_p.tab.map Row.cells) s_p.i 0) rfl ?_
    refine sim_let (v := AV.fptr (Row.w Stroke) (s_p.tab.map Row.cells) s_p.i 0) rfl ?_
    refine sim_let (v := Sl.enc s_.points) (ld_pt hp_s_ false 1 0) ?_
    refine sim_get (Tab.enc h1 s_.points) (fun m15 a14 hi16 hm17 => ?_)
    refine sim_let (v := AV.agg [iv a14.x, iv a14.y, iv a14.t]) ((Tab.enc h1 s_.points).ld hm17 true 3 0) ?_
    refine sim_callQ1 he_spec_l02Point (snapD_nr _ a14 rfl) (fun c18 => ?_)
    refine sim_let2 (hand_plain (by rfl) _ _) ?_
    refine sim_let (v := bv (!c18)) (aUn_not _) ?_
    refine sim_g3F (e := bv) (fun hb19 => ?_) (fun y21 y22 c20 => ?_)
    · refine sim_o0 ?_
      refine sim_o1 ?_
      refine sim_let (v := bv (decide (0 < w3))) (aBin_gtr _ _) ?_
      refine sim_o0 ?_
      exact sim_ret rfl
    · simp only [gv_FT]
      refine sim_g18T (e := bv) (fun hb23 => ?_) (fun y33 y34 y35 y36 y37 y38 y39 y40 y41 y42 y43 y44 y45 y46 y47 y48 y49 c32 => ?_)
      · refine sim_o0 ?_
        refine sim_o1 ?_
        refine sim_let (v := AV.fptr (Row.w Stroke) (s_p.tab.map Row.cells) s_p.i 0) rfl ?_
        refine sim_o0 ?_
        refine sim_o1 ?_
        refine sim_let (v := AV.fptr (Row.w Stroke) (s_p.tab.map Row.cells) s_p.i 0) rfl ?_
        refine sim_o0 ?_
        refine sim_o1 ?_
        refine sim_let (v := Sl.enc s_.points) (ld_pt hp_s_ false 1 0) ?_
        refine sim_o0 ?_
        refine sim_o0 ?_
        refine sim_o1 ?_
        refine sim_get (Tab.enc h1 s_.points) (fun m25 a24 hi26 hm27 => ?_)
        refine sim_o0 ?_
        refine sim_o1 ?_
        refine sim_let (v := elp (Sl.enc s_.points) m25 2) ((Tab.enc h1 s_.points).fld _ _ _) ?_
        refine sim_o0 ?_
        refine sim_o1 ?_
        refine sim_let (v := iv a24.t) ((Tab.enc h1 s_.points).ld hm27 false 1 2) ?_
        refine sim_o0 ?_
        refine sim_o0 ?_
        refine sim_o1 ?_
        refine sim_let (v := AV.fptr (Row.w Stroke) (s_p.tab.map Row.cells) s_p.i 0) rfl ?_
        refine sim_o0 ?_
        refine sim_o1 ?_
        refine sim_let (v := AV.fptr (Row.w Stroke) (s_p.tab.map Row.cells) s_p.i 0) rfl ?_
        refine sim_o0 ?_
        refine sim_o1 ?_
        refine sim_let (v := Sl.enc s_.points) (ld_pt hp_s_ false 1 0) ?_
        refine sim_o0 ?_
        refine sim_o0 ?_
        refine sim_o1 ?_
        refine sim_let (v := iv (wr (w3 - 1))) (aBin_sub _ _) ?_
        refine sim_o0 ?_
        refine sim_o1 ?_
        refine sim_get (Tab.enc h1 s_.points) (fun m29 a28 hi30 hm31 => ?_)
        refine sim_o0 ?_
        refine sim_o1 ?_
        refine sim_let (v := elp (Sl.enc s_.points) m29 2) ((Tab.enc h1 s_.points).fld _ _ _) ?_
        refine sim_o0 ?_
        refine sim_o1 ?_
        refine sim_let (v := iv a28.t) ((Tab.enc h1 s_.points).ld hm31 false 1 2) ?_
        refine sim_o0 ?_
        refine sim_let (v := bv (decide (a24.t ≤ a28.t))) (aBin_leq _ _) ?_
        exact sim_ret rfl
      · refine sim_guardF (e := bv) (fun hb50 => ?_) (fun c51 => ?_)
        · simp only [hb50, cond_true, cond_false, Bool.not_true, Bool.not_false, Bool.true_and, Bool.and_true, Bool.false_and, Bool.not_not]
          refine sim_let (v := bv (bif c20 then c32 else false)) (pick_b _ _ _) ?_
          exact sim_ret rfl
        · refine sim_let (v := bv (bif !c18 then true else c51)) (pick_b' _ _ _) ?_
          refine sim_cond (fun c52 => ?_) (fun c52 => ?_)
          · exact sim_ret ⟨nofun, _, _, rfl, O2⟩
          · refine sim_let (v := iv (wr (w3 + 1))) (aBin_add _ _) ?_
            exact sim_ret ⟨rfl, rfl, O2⟩
  · exact sim_ret ⟨nofun, _, _, _, rfl, O2⟩
theorem ts_spec_l02Stroke (env : Nat → Contract) (he_spec_l00In : env n_spec_l00In = .pure (T3 within)) (he_spec_l02Point : env n_spec_l02Point = .pure (C1 (fun c : Bool => enc c) t_spec_l02Point)) (s_ : Stroke) {s_p : Pt Stroke} (hp_s_ : s_p.get = some s_) : Sim (denFn Try.prog env n_spec_l02Stroke [AV.fptr (Row.w Stroke) (s_p.tab.map Row.cells) s_p.i 0] []) (t_spec_l02Stroke s_) fun c p => release p.2 depth p.1 = some ((fun c : Bool => enc c) c) := by
  have O := Hold.nil []
  generalize hB : (⟨[], []⟩ : Base) = B at O
  clear hB
  rw [e_spec_l02Stroke]
  unfold t_spec_l02Stroke
  refine sim_bind ((tl0_spec_l02Stroke env he_spec_l00In he_spec_l02Point s_ s_p hp_s_) ⟨rfl, O⟩) (fun qq57 r hq => ?_)
  rcases qq57 with _ | q11
  · obtain ⟨q7, z6, h4, rfl, O5⟩ := hq
    rw [e_lk0x0_spec_l02Stroke]
    refine sim_let (v := AV.fptr (Row.w Stroke) (s_p.tab.map Row.cells) s_p.i 0) rfl ?_
    refine sim_let (v := AV.fptr (Row.w Stroke) (s_p.tab.map Row.cells) s_p.i 0) rfl ?_
    refine sim_let (v := Sl.enc s_.points) (ld_pt hp_s_ false 1 0) ?_
    refine sim_let (v := iv (((s_.points.getD []).length : Nat) : Int)) (Tab.enc h4 s_.points).len ?_
    refine sim_callV3 (t := within) he_spec_l00In (snapD_int _ _) (snapD_int _ _) (snapD_int _ _) (fun c8 => ?_)
    exact sim_ret (release_plain (by rfl) _)
  · obtain ⟨q12, h9, rfl, O10⟩ := hq
    rw [e_lk0r_spec_l02Stroke]
    exact sim_ret (release_plain (by rfl) _)
theorem tt_spec_l02Stroke : PureOK Try.prog n_spec_l02Stroke (C1 (fun c : Bool => enc c) tp_spec_l02Stroke) := pureC1 (Econs ok_spec_l00In (Econs tt_spec_l02Point E0)) mixed hb_spec_l02Stroke fun s_p => sim_getP fun s_ hp_s_ => ts_spec_l02Stroke _ (by simp [envL]) (by simp [envL]) s_ hp_s_

def t_spec_l05On (a_ : Point) (b_ : Point) (p_ : Point) : Option Bool :=
  obind (some ((fun a b : Int => min a b) a_.x b_.x)) fun c13 =>
  obind (some ((fun a b : Int => max a b) a_.x b_.x)) fun c14 =>
  obind (some (within p_.x c13 c14)) fun c15 =>
  obind (bif c15 then (obind (some ((fun a b : Int => min a b) a_.y b_.y)) fun c17 => obind (some ((fun a b : Int => max a b) a_.y b_.y)) fun c18 => obind (some (within p_.y c17 c18)) fun c19 => some c19) else some false) fun c20 =>
  some (bif c15 then c20 else false)

theorem ts_spec_l05On (env : Nat → Contract) (he_spec_l00In : env n_spec_l00In = .pure (T3 within)) (he_spec_l00Max : env n_spec_l00Max = .pure (T2 (fun a b : Int => max a b))) (he_spec_l00Min : env n_spec_l00Min = .pure (T2 (fun a b : Int => min a b))) (a_ : Point) (b_ : Point) (p_ : Point) : Sim (denFn Try.prog env n_spec_l05On [AV.agg [iv a_.x, iv a_.y, iv a_.t], AV.agg [iv b_.x, iv b_.y, iv b_.t], AV.agg [iv p_.x, iv p_.y, iv p_.t]] []) (t_spec_l05On a_ b_ p_) fun c p => release p.2 depth p.1 = some ((fun c : Bool => enc c) c) := by
  have O := Hold.nil []
  generalize hB : (⟨[], []⟩ : Base) = B at O
  clear hB
  rw [e_spec_l05On]
  unfold t_spec_l05On
  refine sim_box O (cs := [iv a_.x, iv a_.y, iv a_.t]) (by first | rfl | simp) (fun o1 h2 O3 => ?_)
  replace O3 : Hold B h2 [(AV.ptr o1 1 0 0, .pt 3 [iv a_.x, iv a_.y, iv a_.t])] := O3
  refine sim_box O3 (cs := [iv b_.x, iv b_.y, iv b_.t]) (by first | rfl | simp) (fun o5 h6 O7 => ?_)
  replace O7 : Hold B h6 [(AV.ptr o1 1 0 0, .pt 3 [iv a_.x, iv a_.y, iv a_.t]), (AV.ptr o5 1 0 0, .pt 3 [iv b_.x, iv b_.y, iv b_.t])] := O7
  refine sim_box O7 (cs := [iv p_.x, iv p_.y, iv p_.t]) (by first | rfl | simp) (fun o9 h10 O11 => ?_)
  replace O11 : Hold B h10 [(AV.ptr o1 1 0 0, .pt 3 [iv a_.x, iv a_.y, iv a_.t]), (AV.ptr o5 1 0 0, .pt 3 [iv b_.x, iv b_.y, iv b_.t]), (AV.ptr o9 1 0 0, .pt 3 [iv p_.x, iv p_.y, iv p_.t])] := O11
  refine sim_let (v := AV.ptr o9 1 0 0) rfl ?_
  refine sim_let (v := iv p_.x) (O11.ld 2 rfl false 1 0) ?_
  refine sim_let (v := AV.ptr o1 1 0 0) rfl ?_
  refine sim_let (v := iv a_.x) (O11.ld 0 rfl false 1 0) ?_
  refine sim_let (v := AV.ptr o5 1 0 0) rfl ?_
  refine sim_let (v := iv b_.x) (O11.ld 1 rfl false 1 0) ?_
  refine sim_callVQ2 (t := (fun a b : Int => min a b)) he_spec_l00Min (snapD_int _ _) (snapD_int _ _) (fun c13 => ?_)
  refine sim_let (v := AV.ptr o1 1 0 0) rfl ?_
  refine sim_let (v := iv a_.x) (O11.ld 0 rfl false 1 0) ?_
  refine sim_let (v := AV.ptr o5 1 0 0) rfl ?_
  refine sim_let (v := iv b_.x) (O11.ld 1 rfl false 1 0) ?_
  refine sim_callVQ2 (t := (fun a b : Int => max a b)) he_spec_l00Max (snapD_int _ _) (snapD_int _ _) (fun c14 => ?_)
  refine sim_callVQ3 (t := within) he_spec_l00In (snapD_int _ _) (snapD_int _ _) (snapD_int _ _) (fun c15 => ?_)
  refine sim_g13T (e := bv) (fun hb16 => ?_) (fun y21 y22 y23 y24 y25 y26 y27 y28 y29 y30 y31 y32 c20 => ?_)
  · refine sim_o1 ?_
    refine sim_let (v := AV.ptr o9 1 0 1) rfl ?_
    refine sim_o0 ?_
    refine sim_o1 ?_
    refine sim_let (v := iv p_.y) (O11.ld 2 rfl false 1 1) ?_
    refine sim_o0 ?_
    refine sim_o1 ?_
    refine sim_let (v := AV.ptr o1 1 0 1) rfl ?_
    refine sim_o0 ?_
    refine sim_o1 ?_
    refine sim_let (v := iv a_.y) (O11.ld 0 rfl false 1 1) ?_
    refine sim_o0 ?_
    refine sim_o1 ?_
    refine sim_let (v := AV.ptr o5 1 0 1) rfl ?_
    refine sim_o0 ?_
    refine sim_o1 ?_
    refine sim_let (v := iv b_.y) (O11.ld 1 rfl false 1 1) ?_
    refine sim_o0 ?_
    refine sim_o2 ?_
    refine sim_callVQ2 (t := (fun a b : Int => min a b)) he_spec_l00Min (snapD_int _ _) (snapD_int _ _) (fun c17 => ?_)
    refine sim_o0 ?_
    refine sim_o1 ?_
    refine sim_let (v := AV.ptr o1 1 0 1) rfl ?_
    refine sim_o0 ?_
    refine sim_o1 ?_
    refine sim_let (v := iv a_.y) (O11.ld 0 rfl false 1 1) ?_
    refine sim_o0 ?_
    refine sim_o1 ?_
    refine sim_let (v := AV.ptr o5 1 0 1) rfl ?_
    refine sim_o0 ?_
    refine sim_o1 ?_
    refine sim_let (v := iv b_.y) (O11.ld 1 rfl false 1 1) ?_
    refine sim_o0 ?_
    refine sim_o2 ?_
    refine sim_callVQ2 (t := (fun a b : Int => max a b)) he_spec_l00Max (snapD_int _ _) (snapD_int _ _) (fun c18 => ?_)
    refine sim_o0 ?_
    refine sim_callVQ3 (t := within) he_spec_l00In (snapD_int _ _) (snapD_int _ _) (snapD_int _ _) (fun c19 => ?_)
    exact sim_ret rfl
  · refine sim_let (v := bv (bif c15 then c20 else false)) (pick_b _ _ _) ?_
    exact sim_ret (release_plain (by rfl) _)
theorem tt_spec_l05On : PureOK Try.prog n_spec_l05On (C3 (fun c : Bool => enc c) t_spec_l05On) := pureC3 (Econs ok_spec_l00In (Econs ok_spec_l00Max (Econs ok_spec_l00Min E0))) mixed hb_spec_l05On fun a_ b_ p_ => ts_spec_l05On _ (by simp [envL]) (by simp [envL]) (by simp [envL]) a_ b_ p_

def t_spec_l05Meet (a_ : Point) (b_ : Point) (c_ : Point) (d_ : Point) : Option Bool :=
  obind (t_spec_l05Turn a_ b_ c_) fun c17 =>
  obind (t_spec_l05Turn a_ b_ d_) fun c18 =>
  obind (t_spec_l05Turn c_ d_ a_) fun c19 =>
  obind (t_spec_l05Turn c_ d_ b_) fun c20 =>
  obind (bif decide ((wr (c17 * c18)) < 0) then (some (decide ((wr (c19 * c20)) < 0))) else some false) fun c22 =>
  bif (bif decide ((wr (c17 * c18)) < 0) then c22 else false) then
    some true
  else
    obind (bif decide (c17 = 0) then (obind (t_spec_l05On a_ b_ c_) fun c25 => some c25) else some false) fun c26 =>
    obind (bif (bif decide (c17 = 0) then c26 else false) then some false else (some (decide (c18 = 0)))) fun c28 =>
    obind (bif (!(bif decide (c17 = 0) then c26 else false) && c28) then (obind (t_spec_l05On a_ b_ d_) fun c30 => some c30) else some false) fun c31 =>
    obind (bif (bif decide (c17 = 0) then c26 else false) then some false else (some (bif c28 then c31 else false))) fun c33 =>
    obind (bif (bif (bif decide (c17 = 0) then c26 else false) then true else c33) then some false else (some (decide (c19 = 0)))) fun c35 =>
    obind (bif (!(bif (bif decide (c17 = 0) then c26 else false) then true else c33) && c35) then (obind (t_spec_l05On c_ d_ a_) fun c37 => some c37) else some false) fun c38 =>
    obind (bif (bif (bif decide (c17 = 0) then c26 else false) then true else c33) then some false else (some (bif c35 then c38 else false))) fun c40 =>
    obind (bif (bif (bif (bif decide (c17 = 0) then c26 else false) then true else c33) then true else c40) then some false else (some (decide (c20 = 0)))) fun c42 =>
    obind (bif (!(bif (bif (bif decide (c17 = 0) then c26 else false) then true else c33) then true else c40) && c42) then (obind (t_spec_l05On c_ d_ b_) fun c44 => some c44) else some false) fun c45 =>
    obind (bif (bif (bif (bif decide (c17 = 0) then c26 else false) then true else c33) then true else c40) then some false else (some (bif c42 then c45 else false))) fun c47 =>
    some (bif (bif (bif (bif decide (c17 = 0) then c26 else false) then true else c33) then true else c40) then true else c47)

theorem ts_spec_l05Meet (env : Nat → Contract) (he_spec_l05On : env n_spec_l05On = .pure (C3 (fun c : Bool => enc c) t_spec_l05On)) (he_spec_l05Turn : env n_spec_l05Turn = .pure (C3 (fun c : Int => enc c) t_spec_l05Turn)) (a_ : Point) (b_ : Point) (c_ : Point) (d_ : Point) : Sim (denFn Try.prog env n_spec_l05Meet [AV.agg [iv a_.x, iv a_.y, iv a_.t], AV.agg [iv b_.x, iv b_.y, iv b_.t], AV.agg [iv c_.x, iv c_.y, iv c_.t], AV.agg [iv d_.x, iv d_.y, iv d_.t]] []) (t_spec_l05Meet a_ b_ c_ d_) fun c p => release p.2 depth p.1 = some ((fun c : Bool => enc c) c) := by
  have O := Hold.nil []
  generalize hB : (⟨[], []⟩ : Base) = B at O
  clear hB
  rw [e_spec_l05Meet]
  unfold t_spec_l05Meet
  refine sim_box O (cs := [iv a_.x, iv a_.y, iv a_.t]) (by first | rfl | simp) (fun o1 h2 O3 => ?_)
  replace O3 : Hold B h2 [(AV.ptr o1 1 0 0, .pt 3 [iv a_.x, iv a_.y, iv a_.t])] := O3
  refine sim_box O3 (cs := [iv b_.x, iv b_.y, iv b_.t]) (by first | rfl | simp) (fun o5 h6 O7 => ?_)
  replace O7 : Hold B h6 [(AV.ptr o1 1 0 0, .pt 3 [iv a_.x, iv a_.y, iv a_.t]), (AV.ptr o5 1 0 0, .pt 3 [iv b_.x, iv b_.y, iv b_.t])] := O7
  refine sim_box O7 (cs := [iv c_.x, iv c_.y, iv c_.t]) (by first | rfl | simp) (fun o9 h10 O11 => ?_)
  replace O11 : Hold B h10 [(AV.ptr o1 1 0 0, .pt 3 [iv a_.x, iv a_.y, iv a_.t]), (AV.ptr o5 1 0 0, .pt 3 [iv b_.x, iv b_.y, iv b_.t]), (AV.ptr o9 1 0 0, .pt 3 [iv c_.x, iv c_.y, iv c_.t])] := O11
  refine sim_box O11 (cs := [iv d_.x, iv d_.y, iv d_.t]) (by first | rfl | simp) (fun o13 h14 O15 => ?_)
  replace O15 : Hold B h14 [(AV.ptr o1 1 0 0, .pt 3 [iv a_.x, iv a_.y, iv a_.t]), (AV.ptr o5 1 0 0, .pt 3 [iv b_.x, iv b_.y, iv b_.t]), (AV.ptr o9 1 0 0, .pt 3 [iv c_.x, iv c_.y, iv c_.t]), (AV.ptr o13 1 0 0, .pt 3 [iv d_.x, iv d_.y, iv d_.t])] := O15
  refine sim_let (v := AV.agg [iv a_.x, iv a_.y, iv a_.t]) (O15.ld 0 rfl true 3 0) ?_
  refine sim_let (v := AV.agg [iv b_.x, iv b_.y, iv b_.t]) (O15.ld 1 rfl true 3 0) ?_
  refine sim_let (v := AV.agg [iv c_.x, iv c_.y, iv c_.t]) (O15.ld 2 rfl true 3 0) ?_
  refine sim_call3 he_spec_l05Turn (snapD_nr _ a_ rfl) (snapD_nr _ b_ rfl) (snapD_nr _ c_ rfl) (fun c17 => ?_)
  refine sim_let2 (hand_plain (by rfl) _ _) ?_
  refine sim_let (v := AV.agg [iv a_.x, iv a_.y, iv a_.t]) (O15.ld 0 rfl true 3 0) ?_
  refine sim_let (v := AV.agg [iv b_.x, iv b_.y, iv b_.t]) (O15.ld 1 rfl true 3 0) ?_
  refine sim_let (v := AV.agg [iv d_.x, iv d_.y, iv d_.t]) (O15.ld 3 rfl true 3 0) ?_
  refine sim_call3 he_spec_l05Turn (snapD_nr _ a_ rfl) (snapD_nr _ b_ rfl) (snapD_nr _ d_ rfl) (fun c18 => ?_)
  refine sim_let2 (hand_plain (by rfl) _ _) ?_
  refine sim_let (v := AV.agg [iv c_.x, iv c_.y, iv c_.t]) (O15.ld 2 rfl true 3 0) ?_
  refine sim_let (v := AV.agg [iv d_.x, iv d_.y, iv d_.t]) (O15.ld 3 rfl true 3 0) ?_
  refine sim_let (v := AV.agg [iv a_.x, iv a_.y, iv a_.t]) (O15.ld 0 rfl true 3 0) ?_
  refine sim_call3 he_spec_l05Turn (snapD_nr _ c_ rfl) (snapD_nr _ d_ rfl) (snapD_nr _ a_ rfl) (fun c19 => ?_)
  refine sim_let2 (hand_plain (by rfl) _ _) ?_
  refine sim_let (v := AV.agg [iv c_.x, iv c_.y, iv c_.t]) (O15.ld 2 rfl true 3 0) ?_
  refine sim_let (v := AV.agg [iv d_.x, iv d_.y, iv d_.t]) (O15.ld 3 rfl true 3 0) ?_
  refine sim_let (v := AV.agg [iv b_.x, iv b_.y, iv b_.t]) (O15.ld 1 rfl true 3 0) ?_
  refine sim_call3 he_spec_l05Turn (snapD_nr _ c_ rfl) (snapD_nr _ d_ rfl) (snapD_nr _ b_ rfl) (fun c20 => ?_)
  refine sim_let2 (hand_plain (by rfl) _ _) ?_
  refine sim_let (v := iv (wr (c17 * c18))) (aBin_mul _ _) ?_
  refine sim_let (v := bv (decide ((wr (c17 * c18)) < 0))) (aBin_lss _ _) ?_
  refine sim_guardT (e := bv) (fun hb21 => ?_) (fun c22 => ?_)
  · refine sim_let (v := iv (wr (c19 * c20))) (aBin_mul _ _) ?_
    refine sim_let (v := bv (decide ((wr (c19 * c20)) < 0))) (aBin_lss _ _) ?_
    exact sim_ret rfl
  · refine sim_let (v := bv (bif decide ((wr (c17 * c18)) < 0) then c22 else false)) (pick_b _ _ _) ?_
    refine sim_cond (fun c23 => ?_) (fun c23 => ?_)
    · exact sim_ret (release_plain (by rfl) _)
    · refine sim_let (v := bv (decide (c17 = 0))) (aCmp_eq _ _) ?_
      refine sim_guardT (e := bv) (fun hb24 => ?_) (fun c26 => ?_)
      · refine sim_let (v := AV.agg [iv a_.x, iv a_.y, iv a_.t]) (O15.ld 0 rfl true 3 0) ?_
        refine sim_let (v := AV.agg [iv b_.x, iv b_.y, iv b_.t]) (O15.ld 1 rfl true 3 0) ?_
        refine sim_let (v := AV.agg [iv c_.x, iv c_.y, iv c_.t]) (O15.ld 2 rfl true 3 0) ?_
        refine sim_call3 he_spec_l05On (snapD_nr _ a_ rfl) (snapD_nr _ b_ rfl) (snapD_nr _ c_ rfl) (fun c25 => ?_)
        refine sim_let2 (hand_plain (by rfl) _ _) ?_
        exact sim_ret rfl
      · refine sim_let (v := bv (bif decide (c17 = 0) then c26 else false)) (pick_b _ _ _) ?_
        refine sim_guardF (e := bv) (fun hb27 => ?_) (fun c28 => ?_)
        · refine sim_let (v := bv (decide (c18 = 0))) (aCmp_eq _ _) ?_
          exact sim_ret rfl
        · simp only [gv_FT]
          refine sim_guardT (e := bv) (fun hb29 => ?_) (fun c31 => ?_)
          · refine sim_let (v := AV.agg [iv a_.x, iv a_.y, iv a_.t]) (O15.ld 0 rfl true 3 0) ?_
            refine sim_let (v := AV.agg [iv b_.x, iv b_.y, iv b_.t]) (O15.ld 1 rfl true 3 0) ?_
            refine sim_let (v := AV.agg [iv d_.x, iv d_.y, iv d_.t]) (O15.ld 3 rfl true 3 0) ?_
            refine sim_call3 he_spec_l05On (snapD_nr _ a_ rfl) (snapD_nr _ b_ rfl) (snapD_nr _ d_ rfl) (fun c30 => ?_)
            refine sim_let2 (hand_plain (by rfl) _ _) ?_
            exact sim_ret rfl
          · refine sim_guardF (e := bv) (fun hb32 => ?_) (fun c33 => ?_)
            · simp only [hb32, cond_true, cond_false, Bool.not_true, Bool.not_false, Bool.true_and, Bool.and_true, Bool.false_and, Bool.not_not]
              refine sim_let (v := bv (bif c28 then c31 else false)) (pick_b _ _ _) ?_
              exact sim_ret rfl
            · refine sim_let (v := bv (bif (bif decide (c17 = 0) then c26 else false) then true else c33)) (pick_b' _ _ _) ?_
              refine sim_guardF (e := bv) (fun hb34 => ?_) (fun c35 => ?_)
              · refine sim_let (v := bv (decide (c19 = 0))) (aCmp_eq _ _) ?_
                exact sim_ret rfl
              · simp only [gv_FT]
                refine sim_guardT (e := bv) (fun hb36 => ?_) (fun c38 => ?_)
                · refine sim_let (v := AV.agg [iv c_.x, iv c_.y, iv c_.t]) (O15.ld 2 rfl true 3 0) ?_
                  refine sim_let (v := AV.agg [iv d_.x, iv d_.y, iv d_.t]) (O15.ld 3 rfl true 3 0) ?_
                  refine sim_let (v := AV.agg [iv a_.x, iv a_.y, iv a_.t]) (O15.ld 0 rfl true 3 0) ?_
                  refine sim_call3 he_spec_l05On (snapD_nr _ c_ rfl) (snapD_nr _ d_ rfl) (snapD_nr _ a_ rfl) (fun c37 => ?_)
                  refine sim_let2 (hand_plain (by rfl) _ _) ?_
                  exact sim_ret rfl
                · refine sim_guardF (e := bv) (fun hb39 => ?_) (fun c40 => ?_)
                  · simp only [hb39, cond_true, cond_false, Bool.not_true, Bool.not_false, Bool.true_and, Bool.and_true, Bool.false_and, Bool.not_not]
                    refine sim_let (v := bv (bif c35 then c38 else false)) (pick_b _ _ _) ?_
                    exact sim_ret rfl
                  · refine sim_let (v := bv (bif (bif (bif decide (c17 = 0) then c26 else false) then true else c33) then true else c40)) (pick_b' _ _ _) ?_
                    refine sim_guardF (e := bv) (fun hb41 => ?_) (fun c42 => ?_)
                    · refine sim_let (v := bv (decide (c20 = 0))) (aCmp_eq _ _) ?_
                      exact sim_ret rfl
                    · simp only [gv_FT]
                      refine sim_guardT (e := bv) (fun hb43 => ?_) (fun c45 => ?_)
                      · refine sim_let (v := AV.agg [iv c_.x, iv c_.y, iv c_.t]) (O15.ld 2 rfl true 3 0) ?_
                        refine sim_let (v := AV.agg [iv d_.x, iv d_.y, iv d_.t]) (O15.ld 3 rfl true 3 0) ?_
                        refine sim_let (v := AV.agg [iv b_.x, iv b_.y, iv b_.t]) (O15.ld 1 rfl true 3 0) ?_
                        refine sim_call3 he_spec_l05On (snapD_nr _ c_ rfl) (snapD_nr _ d_ rfl) (snapD_nr _ b_ rfl) (fun c44 => ?_)
                        refine sim_let2 (hand_plain (by rfl) _ _) ?_
                        exact sim_ret rfl
                      · refine sim_guardF (e := bv) (fun hb46 => ?_) (fun c47 => ?_)
                        · simp only [hb46, cond_true, cond_false, Bool.not_true, Bool.not_false, Bool.true_and, Bool.and_true, Bool.false_and, Bool.not_not]
                          refine sim_let (v := bv (bif c42 then c45 else false)) (pick_b _ _ _) ?_
                          exact sim_ret rfl
                        · refine sim_let (v := bv (bif (bif (bif (bif decide (c17 = 0) then c26 else false) then true else c33) then true else c40) then true else c47)) (pick_b' _ _ _) ?_
                          exact sim_ret (release_plain (by rfl) _)
theorem tt_spec_l05Meet : PureOK Try.prog n_spec_l05Meet (C4 (fun c : Bool => enc c) t_spec_l05Meet) := pureC4 (Econs tt_spec_l05On (Econs tt_spec_l05Turn E0)) mixed hb_spec_l05Meet fun a_ b_ c_ d_ => ts_spec_l05Meet _ (by simp [envL]) (by simp [envL]) a_ b_ c_ d_

def s1_spec_l05Crossings (s_ : Stroke) (t_ : Stroke) (w4 : Int) : (Int × Int) → Option (Sum (Int × Int) Int) := fun (w13, w14) =>
  bif decide (w14 < (((t_.points.getD []).length : Nat) : Int)) then
    obind (getI (s_.points.getD []) (wr (w4 - 1))) fun a21 =>
    obind (getI (s_.points.getD []) w4) fun a25 =>
    obind (getI (t_.points.getD []) (wr (w14 - 1))) fun a29 =>
    obind (getI (t_.points.getD []) w14) fun a33 =>
    obind (t_spec_l05Meet a21 a25 a29 a33) fun c37 =>
    bif c37 then
      some (.inl (wr (w13 + 1), wr (w14 + 1)))
    else
      some (.inl (w13, wr (w14 + 1)))
  else
    some (.inr w13)
def s0_spec_l05Crossings (s_ : Stroke) (t_ : Stroke) : (Int × Int) → Option (Sum (Int × Int) Int) := fun (w3, w4) =>
  bif decide (w4 < (((s_.points.getD []).length : Nat) : Int)) then
    obind (loopT (s1_spec_l05Crossings s_ t_ w4) (w3, 1)) fun q17 =>
    some (.inl (q17, wr (w4 + 1)))
  else
    some (.inr w3)
def t_spec_l05Crossings (s_ : Stroke) (t_ : Stroke) : Option Int :=
  obind (loopT (s0_spec_l05Crossings s_ t_) (0, 1)) fun q7 =>
  some q7
def tp_spec_l05Crossings (s_p : Pt Stroke) (t_p : Pt Stroke) : Option Int := obind s_p.get fun s_ => obind t_p.get fun t_ => t_spec_l05Crossings s_ t_

theorem tl1_spec_l05Crossings (env : Nat → Contract) {B : Base} (he_spec_l05Meet : env n_spec_l05Meet = .pure (C4 (fun c : Bool => enc c) t_spec_l05Meet)) (s_ : Stroke) (s_p : Pt Stroke) (hp_s_ : s_p.get = some s_) (t_ : Stroke) (t_p : Pt Stroke) (hp_t_ : t_p.get = some t_) (w4 : Int)  {st : Int × Int} {tm : TM} {h : Heap} (R : (fun (st : Int × Int) tm h11 => match st with | (w13, w14) => tm = ((AV.fptr (Row.w Stroke) (s_p.tab.map Row.cells) s_p.i 0) :: (AV.fptr (Row.w Stroke) (t_p.tab.map Row.cells) t_p.i 0) :: und :: und :: (iv 0) :: (iv w13) :: (iv w4) :: (iv w14) :: (iv w4) :: (AV.fptr (Row.w Stroke) (s_p.tab.map Row.cells) s_p.i 0) :: (AV.fptr (Row.w Stroke) (s_p.tab.map Row.cells) s_p.i 0) :: (AV.fptr (Row.w Stroke) (s_p.tab.map Row.cells) s_p.i 0) :: (Sl.enc s_.points) :: (iv (((s_.points.getD []).length : Nat) : Int)) :: (bv (decide (w4 < (((s_.points.getD []).length : Nat) : Int)))) :: AV.top :: AV.top :: AV.top :: AV.top :: AV.top :: AV.top :: AV.top :: AV.top :: AV.top :: AV.top :: AV.top :: AV.top :: AV.top :: AV.top :: AV.top :: AV.top :: AV.top :: AV.top :: AV.top :: AV.top :: AV.top :: AV.top :: AV.top :: AV.top :: AV.top :: AV.top :: AV.top :: AV.top :: AV.top :: AV.top :: AV.top :: AV.top :: AV.top :: AV.top :: AV.top :: AV.top :: AV.top :: AV.top :: AV.top :: AV.top :: AV.top :: AV.top :: AV.top :: AV.top :: und :: []) ∧ Hold B h11 []) st tm h) : Sim (loopP hm1_spec_l05Crossings xm1_spec_l05Crossings (lb1_spec_l05Crossings env) tm h) (loopT (s1_spec_l05Crossings s_ t_ w4) st) (fun (q : Int) (r : Res) => match q with | q17 => ∃ (q18 : Int) (h15 : Heap), r = (.exit 2, ((AV.fptr (Row.w Stroke) (s_p.tab.map Row.cells) s_p.i 0) :: (AV.fptr (Row.w Stroke) (t_p.tab.map Row.cells) t_p.i 0) :: und :: und :: (iv 0) :: (iv q17) :: (iv w4) :: (iv q18) :: (iv w4) :: (AV.fptr (Row.w Stroke) (s_p.tab.map Row.cells) s_p.i 0) :: (AV.fptr (Row.w Stroke) (s_p.tab.map Row.cells) s_p.i 0) :: (AV.fptr (Row.w Stroke) (s_p.tab.map Row.cells) s_p.i 0) :: (Sl.enc s_.points) :: (iv (((s_.points.getD []).length : Nat) : Int)) :: (bv (decide (w4 < (((s_.points.getD []).length : Nat) : Int)))) :: AV.top :: AV.top :: AV.top :: AV.top :: AV.top :: AV.top :: AV.top :: AV.top :: AV.top :: AV.top :: AV.top :: AV.top :: AV.top :: AV.top :: AV.top :: AV.top :: AV.top :: AV.top :: AV.top :: AV.top :: AV.top :: AV.top :: AV.top :: AV.top :: AV.top :: AV.top :: AV.top :: AV.top :: AV.top :: AV.top :: AV.top :: AV.top :: AV.top :: AV.top :: AV.top :: AV.top :: AV.top :: AV.top :: AV.top :: AV.top :: AV.top :: AV.top :: AV.top :: AV.top :: und :: []), h15) ∧ Hold B h15 []) := by
  refine loop_sim (Rel := fun (st : Int × Int) tm h11 => match st with | (w13, w14) => tm = ((AV.fptr (Row.w Stroke) (s_p.tab.map Row.cells) s_p.i 0) :: (AV.fptr (Row.w Stroke) (t_p.tab.map Row.cells) t_p.i 0) :: und :: und :: (iv 0) :: (iv w13) :: (iv w4) :: (iv w14) :: (iv w4) :: (AV.fptr (Row.w Stroke) (s_p.tab.map Row.cells) s_p.i 0) :: (AV.fptr (Row.w Stroke) (s_p.tab.map Row.cells) s_p.i 0) :: (AV.fptr (Row.w Stroke) (s_p.tab.map Row.cells) s_p.i 0) :: (Sl.enc s_.points) :: (iv (((s_.points.getD []).length : Nat) : Int)) :: (bv (decide (w4 < (((s_.points.getD []).length : Nat) : Int)))) :: AV.top :: AV.top :: AV.top :: AV.top :: AV.top :: AV.top :: AV.top :: AV.top :: AV.top :: AV.top :: AV.top :: AV.top :: AV.top :: AV.top :: AV.top :: AV.top :: AV.top :: AV.top :: AV.top :: AV.top :: AV.top :: AV.top :: AV.top :: AV.top :: AV.top :: AV.top :: AV.top :: AV.top :: AV.top :: AV.top :: AV.top :: AV.top :: AV.top :: AV.top :: AV.top :: AV.top :: AV.top :: AV.top :: AV.top :: AV.top :: AV.top :: AV.top :: AV.top :: AV.top :: und :: []) ∧ Hold B h11 []) (fun st tm h11 R => ?_) R
  obtain ⟨w13, w14⟩ := st
  obtain ⟨rfl, O12⟩ := R
  rw [e_lb1_spec_l05Crossings]
  unfold s1_spec_l05Crossings
  dsimp only
  refine sim_let (v := AV.fptr (Row.w Stroke) (t_p.tab.map Row.cells) t_p.i 0) rfl ?_
  refine sim_let (v := AV.fptr (Row.w Stroke) (t_p.tab.map Row.cells) t_p.i 0) rfl ?_
  refine sim_let (v := Sl.enc t_.points) (ld_pt hp_t_ false 1 0) ?_
  refine sim_let (v := iv (((t_.points.getD []).length : Nat) : Int)) (Tab.enc h11 t_.points).len ?_
  refine sim_let (v := bv (decide (w14 < (((t_.points.getD []).length : Nat) : Int)))) (aBin_lss _ _) ?_
  refine sim_cond (fun c20 => ?_) (fun c20 => ?_)
  · refine sim_let (v := AV.fptr (Row.w Stroke) (s_p.tab.map Row.cells) s_p.i 0) rfl ?_
    refine sim_let (v := AV.fptr (Row.w Stroke) (s_p.tab.map Row.cells) s_p.i 0) rfl ?_
    refine sim_let (v := Sl.enc s_.points) (ld_pt hp_s_ false 1 0) ?_
    refine sim_let (v := iv (wr (w4 - 1))) (aBin_sub _ _) ?_
    refine sim_get (Tab.enc h11 s_.points) (fun m22 a21 hi23 hm24 => ?_)
    refine sim_let (v := AV.agg [iv a21.x, iv a21.y, iv a21.t]) ((Tab.enc h11 s_.points).ld hm24 true 3 0) ?_
    refine sim_let (v := AV.fptr (Row.w Stroke) (s_p.tab.map Row.cells) s_p.i 0) rfl ?_
    refine sim_let (v := AV.fptr (Row.w Stroke) (s_p.tab.map Row.cells) s_p.i 0) rfl ?_
    refine sim_let (v := Sl.enc s_.points) (ld_pt hp_s_ false 1 0) ?_
    refine sim_get (Tab.enc h11 s_.points) (fun m26 a25 hi27 hm28 => ?_)
    refine sim_let (v := AV.agg [iv a25.x, iv a25.y, iv a25.t]) ((Tab.enc h11 s_.points).ld hm28 true 3 0) ?_
    refine sim_let (v := AV.fptr (Row.w Stroke) (t_p.tab.map Row.cells) t_p.i 0) rfl ?_
    refine sim_let (v := AV.fptr (Row.w Stroke) (t_p.tab.map Row.cells) t_p.i 0) rfl ?_
    refine sim_let (v := Sl.enc t_.points) (ld_pt hp_t_ false 1 0) ?_
    refine sim_let (v := iv (wr (w14 - 1))) (aBin_sub _ _) ?_
    refine sim_get (Tab.enc h11 t_.points) (fun m30 a29 hi31 hm32 => ?_)
    refine sim_let (v := AV.agg [iv a29.x, iv a29.y, iv a29.t]) ((Tab.enc h11 t_.points).ld hm32 true 3 0) ?_
    refine sim_let (v := AV.fptr (Row.w Stroke) (t_p.tab.map Row.cells) t_p.i 0) rfl ?_
    refine sim_let (v := AV.fptr (Row.w Stroke) (t_p.tab.map Row.cells) t_p.i 0) rfl ?_
    refine sim_let (v := Sl.enc t_.points) (ld_pt hp_t_ false 1 0) ?_
    refine sim_get (Tab.enc h11 t_.points) (fun m34 a33 hi35 hm36 => ?_)
    refine sim_let (v := AV.agg [iv a33.x, iv a33.y, iv a33.t]) ((Tab.enc h11 t_.points).ld hm36 true 3 0) ?_
    refine sim_callQ4 he_spec_l05Meet (snapD_nr _ a21 rfl) (snapD_nr _ a25 rfl) (snapD_nr _ a29 rfl) (snapD_nr _ a33 rfl) (fun c37 => ?_)
    refine sim_let2 (hand_plain (by rfl) _ _) ?_
    refine sim_cond (fun c38 => ?_) (fun c38 => ?_)
    · refine sim_let (v := iv (wr (w13 + 1))) (aBin_add _ _) ?_
      refine sim_let (v := iv (wr (w14 + 1))) (aBin_add _ _) ?_
      exact sim_ret ⟨rfl, rfl, O12⟩
    · refine sim_let (v := iv (wr (w14 + 1))) (aBin_add _ _) ?_
      exact sim_ret ⟨rfl, rfl, O12⟩
  · exact sim_ret ⟨nofun, _, _, rfl, O12⟩
theorem tl0_spec_l05Crossings (env : Nat → Contract) {B : Base} (he_spec_l05Meet : env n_spec_l05Meet = .pure (C4 (fun c : Bool => enc c) t_spec_l05Meet)) (s_ : Stroke) (s_p : Pt Stroke) (hp_s_ : s_p.get = some s_) (t_ : Stroke) (t_p : Pt Stroke) (hp_t_ : t_p.get = some t_)  {st : Int × Int} {tm : TM} {h : Heap} (R : (fun (st : Int × Int) tm h1 => match st with | (w3, w4) => tm = ((AV.fptr (Row.w Stroke) (s_p.tab.map Row.cells) s_p.i 0) :: (AV.fptr (Row.w Stroke) (t_p.tab.map Row.cells) t_p.i 0) :: und :: und :: (iv 0) :: (iv w3) :: (iv w4) :: AV.top :: AV.top :: AV.top :: AV.top :: AV.top :: AV.top :: AV.top :: AV.top :: AV.top :: AV.top :: AV.top :: AV.top :: AV.top :: AV.top :: AV.top :: AV.top :: AV.top :: AV.top :: AV.top :: AV.top :: AV.top :: AV.top :: AV.top :: AV.top :: AV.top :: AV.top :: AV.top :: AV.top :: AV.top :: AV.top :: AV.top :: AV.top :: AV.top :: AV.top :: AV.top :: AV.top :: AV.top :: AV.top :: AV.top :: AV.top :: AV.top :: AV.top :: AV.top :: AV.top :: AV.top :: AV.top :: AV.top :: AV.top :: AV.top :: AV.top :: AV.top :: AV.top :: und :: []) ∧ Hold B h1 []) st tm h) : Sim (loopP hm0_spec_l05Crossings xm0_spec_l05Crossings (lb0_spec_l05Crossings env) tm h) (loopT (s0_spec_l05Crossings s_ t_) st) (fun (q : Int) (r : Res) => match q with | q7 => ∃ (q8 : Int) (z9 : AV) (h5 : Heap), r = (.exit 0, ((AV.fptr (Row.w Stroke) (s_p.tab.map Row.cells) s_p.i 0) :: (AV.fptr (Row.w Stroke) (t_p.tab.map Row.cells) t_p.i 0) :: und :: und :: (iv 0) :: (iv q7) :: (iv q8) :: z9 :: AV.top :: AV.top :: AV.top :: AV.top :: AV.top :: AV.top :: AV.top :: AV.top :: AV.top :: AV.top :: AV.top :: AV.top :: AV.top :: AV.top :: AV.top :: AV.top :: AV.top :: AV.top :: AV.top :: AV.top :: AV.top :: AV.top :: AV.top :: AV.top :: AV.top :: AV.top :: AV.top :: AV.top :: AV.top :: AV.top :: AV.top :: AV.top :: AV.top :: AV.top :: AV.top :: AV.top :: AV.top :: AV.top :: AV.top :: AV.top :: AV.top :: AV.top :: AV.top :: AV.top :: AV.top :: AV.top :: AV.top :: AV.top :: AV.top :: AV.top :: AV.top :: und :: []), h5) ∧ Hold B h5 []) := by
  refine loop_sim (Rel := fun (st : Int × Int) tm h1 => match st with | (w3, w4) => tm = ((AV.fptr (Row.w Stroke) (s_p.tab.map Row.cells) s_p.i 0) :: (AV.fptr (Row.w Stroke) (t_p.tab.map Row.cells) t_p.i 0) :: und :: und :: (iv 0) :: (iv w3) :: (iv w4) :: AV.top :: AV.top :: AV.top :: AV.top :: AV.top :: AV.top :: AV.top :: AV.top :: AV.top :: AV.top :: AV.top :: AV.top :: AV.top :: AV.top :: AV.top :: AV.top :: AV.top :: AV.top :: AV.top :: AV.top :: AV.top :: AV.top :: AV.top :: AV.top :: AV.top :: AV.top :: AV.top :: AV.top :: AV.top :: AV.top :: AV.top :: AV.top :: AV.top :: AV.top :: AV.top :: AV.top :: AV.top :: AV.top :: AV.top :: AV.top :: AV.top :: AV.top :: AV.top :: AV.top :: AV.top :: AV.top :: AV.top :: AV.top :: AV.top :: AV.top :: AV.top :: AV.top :: und :: []) ∧ Hold B h1 []) (fun st tm h1 R => ?_) R
  obtain ⟨w3, w4⟩ := st
  obtain ⟨rfl, O2⟩ := R
  rw [e_lb0_spec_l05Crossings]
  unfold s0_spec_l05Crossings
  dsimp only
  refine sim_let (v := AV.fptr (Row.w Stroke) (s_p.tab.map Row.cells) s_p.i 0) rfl ?_
  refine sim_let (v := AV.fptr (Row.w Stroke) (s_p.tab.map Row.cells) s_p.i 0) rfl ?_
  refine sim_let (v := Sl.enc s_.points) (ld_pt hp_s_ false 1 0) ?_
  refine sim_let (v := iv (((s_.points.getD []).length : Nat) : Int)) (Tab.enc h1 s_.points).len ?_
  refine sim_let (v := bv (decide (w4 < (((s_.points.getD []).length : Nat) : Int)))) (aBin_lss _ _) ?_
  refine sim_cond (fun c10 => ?_) (fun c10 => ?_)
  · refine sim_bind ((tl1_spec_l05Crossings env he_spec_l05Meet s_ s_p hp_s_ t_ t_p hp_t_ w4) ⟨rfl, O2⟩) (fun qq43 r hq => ?_)
    revert hq
    revert qq43
    intro q17 hq
    obtain ⟨q18, h15, rfl, O16⟩ := hq
    rw [e_lk1x2_spec_l05Crossings]
    refine sim_let (v := iv (wr (w4 + 1))) (aBin_add _ _) ?_
    exact sim_ret ⟨rfl, rfl, O16⟩
  · exact sim_ret ⟨nofun, _, _, _, rfl, O2⟩
theorem ts_spec_l05Crossings (env : Nat → Contract) (he_spec_l05Meet : env n_spec_l05Meet = .pure (C4 (fun c : Bool => enc c) t_spec_l05Meet)) (s_ : Stroke) (t_ : Stroke) {s_p : Pt Stroke} (hp_s_ : s_p.get = some s_) {t_p : Pt Stroke} (hp_t_ : t_p.get = some t_) : Sim (denFn Try.prog env n_spec_l05Crossings [AV.fptr (Row.w Stroke) (s_p.tab.map Row.cells) s_p.i 0, AV.fptr (Row.w Stroke) (t_p.tab.map Row.cells) t_p.i 0] []) (t_spec_l05Crossings s_ t_) fun c p => release p.2 depth p.1 = some ((fun c : Int => enc c) c) := by
  have O := Hold.nil []
  generalize hB : (⟨[], []⟩ : Base) = B at O
  clear hB
  rw [e_spec_l05Crossings]
  unfold t_spec_l05Crossings
  refine sim_bind ((tl0_spec_l05Crossings env he_spec_l05Meet s_ s_p hp_s_ t_ t_p hp_t_) ⟨rfl, O⟩) (fun qq46 r hq => ?_)
  revert hq
  revert qq46
  intro q7 hq
  obtain ⟨q8, z9, h5, rfl, O6⟩ := hq
  rw [e_lk0x0_spec_l05Crossings]
  exact sim_ret (release_plain (by rfl) _)
theorem tt_spec_l05Crossings : PureOK Try.prog n_spec_l05Crossings (C2 (fun c : Int => enc c) tp_spec_l05Crossings) := pureC2 (Econs tt_spec_l05Meet E0) mixed hb_spec_l05Crossings fun s_p t_p => sim_getP fun s_ hp_s_ => sim_getP fun t_ hp_t_ => ts_spec_l05Crossings _ (by simp [envL]) s_ t_ hp_s_ hp_t_

def t_spec_CrossingCount (s_ : Stroke) (t_ : Stroke) : Option (Int × Int) :=
  obind (t_spec_l02Stroke s_) fun c9 =>
  obind (bif !c9 then some false else (obind (t_spec_l02Stroke t_) fun c11 => some (!c11))) fun c12 =>
  bif (bif !c9 then true else c12) then
    some (0, 1)
  else
    obind (t_spec_l05Crossings s_ t_) fun c14 =>
    some (c14, 0)

theorem ts_spec_CrossingCount (env : Nat → Contract) (he_spec_l02Stroke : env n_spec_l02Stroke = .pure (C1 (fun c : Bool => enc c) tp_spec_l02Stroke)) (he_spec_l05Crossings : env n_spec_l05Crossings = .pure (C2 (fun c : Int => enc c) tp_spec_l05Crossings)) (s_ : Stroke) (t_ : Stroke) : Sim (denFn Try.prog env n_spec_CrossingCount [AV.agg [Sl.enc s_.points], AV.agg [Sl.enc t_.points]] []) (t_spec_CrossingCount s_ t_) fun c p => release p.2 depth p.1 = some ((fun c : Int × Int => AV.tup [enc c.1, enc c.2]) c) := by
  have O := Hold.nil []
  generalize hB : (⟨[], []⟩ : Base) = B at O
  clear hB
  rw [e_spec_CrossingCount]
  unfold t_spec_CrossingCount
  refine sim_box O (cs := [Sl.enc s_.points]) (by first | rfl | simp) (fun o1 h2 O3 => ?_)
  replace O3 : Hold B h2 [(AV.ptr o1 1 0 0, .pt 1 [Sl.enc s_.points])] := O3
  refine sim_box O3 (cs := [Sl.enc t_.points]) (by first | rfl | simp) (fun o5 h6 O7 => ?_)
  replace O7 : Hold B h6 [(AV.ptr o1 1 0 0, .pt 1 [Sl.enc s_.points]), (AV.ptr o5 1 0 0, .pt 1 [Sl.enc t_.points])] := O7
  refine sim_eqO (y' := tp_spec_l02Stroke ⟨[s_], 0⟩) (by simp only [tp_spec_l02Stroke, get_pt1, obind_sm]) ?_
  refine sim_call1 he_spec_l02Stroke (O7.snapRn 0 rfl s_ rfl rfl) (fun c9 => ?_)
  refine sim_let2 (hand_plain (by rfl) _ _) ?_
  refine sim_let (v := bv (!c9)) (aUn_not _) ?_
  refine sim_guardF (e := bv) (fun hb10 => ?_) (fun c12 => ?_)
  · refine sim_eqO (y' := tp_spec_l02Stroke ⟨[t_], 0⟩) (by simp only [tp_spec_l02Stroke, get_pt1, obind_sm]) ?_
    refine sim_call1 he_spec_l02Stroke (O7.snapRn 1 rfl t_ rfl rfl) (fun c11 => ?_)
    refine sim_let2 (hand_plain (by rfl) _ _) ?_
    refine sim_let (v := bv (!c11)) (aUn_not _) ?_
    exact sim_ret rfl
  · refine sim_let (v := bv (bif !c9 then true else c12)) (pick_b' _ _ _) ?_
    refine sim_cond (fun c13 => ?_) (fun c13 => ?_)
    · exact sim_ret (release_plain (by rfl) _)
    · refine sim_eqO (y' := tp_spec_l05Crossings ⟨[s_], 0⟩ ⟨[t_], 0⟩) (by simp only [tp_spec_l05Crossings, get_pt1, obind_sm]) ?_
      refine sim_call2 he_spec_l05Crossings (O7.snapRn 0 rfl s_ rfl rfl) (O7.snapRn 1 rfl t_ rfl rfl) (fun c14 => ?_)
      refine sim_let2 (hand_plain (by rfl) _ _) ?_
      exact sim_ret (release_plain (by rfl) _)
theorem tt_spec_CrossingCount : PureOK Try.prog n_spec_CrossingCount (C2 (fun c : Int × Int => AV.tup [enc c.1, enc c.2]) t_spec_CrossingCount) := pureC2 (Econs tt_spec_l02Stroke (Econs tt_spec_l05Crossings E0)) mixed hb_spec_CrossingCount fun s_ t_ => ts_spec_CrossingCount _ (by simp [envL]) (by simp [envL]) s_ t_

def t_spec_SegmentsMeet (a_ : Point) (b_ : Point) (c_ : Point) (d_ : Point) : Option Bool :=
  obind (t_spec_l02Point a_) fun c17 =>
  obind (bif c17 then (obind (t_spec_l02Point b_) fun c19 => some c19) else some false) fun c20 =>
  obind (bif (bif c17 then c20 else false) then (obind (t_spec_l02Point c_) fun c22 => some c22) else some false) fun c23 =>
  obind (bif (bif (bif c17 then c20 else false) then c23 else false) then (obind (t_spec_l02Point d_) fun c25 => some c25) else some false) fun c26 =>
  obind (bif (bif (bif (bif c17 then c20 else false) then c23 else false) then c26 else false) then (obind (t_spec_l05Meet a_ b_ c_ d_) fun c28 => some c28) else some false) fun c29 =>
  some (bif (bif (bif (bif c17 then c20 else false) then c23 else false) then c26 else false) then c29 else false)

theorem ts_spec_SegmentsMeet (env : Nat → Contract) (he_spec_l02Point : env n_spec_l02Point = .pure (C1 (fun c : Bool => enc c) t_spec_l02Point)) (he_spec_l05Meet : env n_spec_l05Meet = .pure (C4 (fun c : Bool => enc c) t_spec_l05Meet)) (a_ : Point) (b_ : Point) (c_ : Point) (d_ : Point) : Sim (denFn Try.prog env n_spec_SegmentsMeet [AV.agg [iv a_.x, iv a_.y, iv a_.t], AV.agg [iv b_.x, iv b_.y, iv b_.t], AV.agg [iv c_.x, iv c_.y, iv c_.t], AV.agg [iv d_.x, iv d_.y, iv d_.t]] []) (t_spec_SegmentsMeet a_ b_ c_ d_) fun c p => release p.2 depth p.1 = some ((fun c : Bool => enc c) c) := by
  have O := Hold.nil []
  generalize hB : (⟨[], []⟩ : Base) = B at O
  clear hB
  rw [e_spec_SegmentsMeet]
  unfold t_spec_SegmentsMeet
  refine sim_box O (cs := [iv a_.x, iv a_.y, iv a_.t]) (by first | rfl | simp) (fun o1 h2 O3 => ?_)
  replace O3 : Hold B h2 [(AV.ptr o1 1 0 0, .pt 3 [iv a_.x, iv a_.y, iv a_.t])] := O3
  refine sim_box O3 (cs := [iv b_.x, iv b_.y, iv b_.t]) (by first | rfl | simp) (fun o5 h6 O7 => ?_)
  replace O7 : Hold B h6 [(AV.ptr o1 1 0 0, .pt 3 [iv a_.x, iv a_.y, iv a_.t]), (AV.ptr o5 1 0 0, .pt 3 [iv b_.x, iv b_.y, iv b_.t])] := O7
  refine sim_box O7 (cs := [iv c_.x, iv c_.y, iv c_.t]) (by first | rfl | simp) (fun o9 h10 O11 => ?_)
  replace O11 : Hold B h10 [(AV.ptr o1 1 0 0, .pt 3 [iv a_.x, iv a_.y, iv a_.t]), (AV.ptr o5 1 0 0, .pt 3 [iv b_.x, iv b_.y, iv b_.t]), (AV.ptr o9 1 0 0, .pt 3 [iv c_.x, iv c_.y, iv c_.t])] := O11
  refine sim_box O11 (cs := [iv d_.x, iv d_.y, iv d_.t]) (by first | rfl | simp) (fun o13 h14 O15 => ?_)
  replace O15 : Hold B h14 [(AV.ptr o1 1 0 0, .pt 3 [iv a_.x, iv a_.y, iv a_.t]), (AV.ptr o5 1 0 0, .pt 3 [iv b_.x, iv b_.y, iv b_.t]), (AV.ptr o9 1 0 0, .pt 3 [iv c_.x, iv c_.y, iv c_.t]), (AV.ptr o13 1 0 0, .pt 3 [iv d_.x, iv d_.y, iv d_.t])] := O15
  refine sim_let (v := AV.agg [iv a_.x, iv a_.y, iv a_.t]) (O15.ld 0 rfl true 3 0) ?_
  refine sim_call1 he_spec_l02Point (snapD_nr _ a_ rfl) (fun c17 => ?_)
  refine sim_let2 (hand_plain (by rfl) _ _) ?_
  refine sim_guardT (e := bv) (fun hb18 => ?_) (fun c20 => ?_)
  · refine sim_let (v := AV.agg [iv b_.x, iv b_.y, iv b_.t]) (O15.ld 1 rfl true 3 0) ?_
    refine sim_call1 he_spec_l02Point (snapD_nr _ b_ rfl) (fun c19 => ?_)
    refine sim_let2 (hand_plain (by rfl) _ _) ?_
    exact sim_ret rfl
  · refine sim_let (v := bv (bif c17 then c20 else false)) (pick_b _ _ _) ?_
    refine sim_guardT (e := bv) (fun hb21 => ?_) (fun c23 => ?_)
    · refine sim_let (v := AV.agg [iv c_.x, iv c_.y, iv c_.t]) (O15.ld 2 rfl true 3 0) ?_
      refine sim_call1 he_spec_l02Point (snapD_nr _ c_ rfl) (fun c22 => ?_)
      refine sim_let2 (hand_plain (by rfl) _ _) ?_
      exact sim_ret rfl
    · refine sim_let (v := bv (bif (bif c17 then c20 else false) then c23 else false)) (pick_b _ _ _) ?_
      refine sim_guardT (e := bv) (fun hb24 => ?_) (fun c26 => ?_)
      · refine sim_let (v := AV.agg [iv d_.x, iv d_.y, iv d_.t]) (O15.ld 3 rfl true 3 0) ?_
        refine sim_call1 he_spec_l02Point (snapD_nr _ d_ rfl) (fun c25 => ?_)
        refine sim_let2 (hand_plain (by rfl) _ _) ?_
        exact sim_ret rfl
      · refine sim_let (v := bv (bif (bif (bif c17 then c20 else false) then c23 else false) then c26 else false)) (pick_b _ _ _) ?_
        refine sim_guardT (e := bv) (fun hb27 => ?_) (fun c29 => ?_)
        · refine sim_let (v := AV.agg [iv a_.x, iv a_.y, iv a_.t]) (O15.ld 0 rfl true 3 0) ?_
          refine sim_let (v := AV.agg [iv b_.x, iv b_.y, iv b_.t]) (O15.ld 1 rfl true 3 0) ?_
          refine sim_let (v := AV.agg [iv c_.x, iv c_.y, iv c_.t]) (O15.ld 2 rfl true 3 0) ?_
          refine sim_let (v := AV.agg [iv d_.x, iv d_.y, iv d_.t]) (O15.ld 3 rfl true 3 0) ?_
          refine sim_call4 he_spec_l05Meet (snapD_nr _ a_ rfl) (snapD_nr _ b_ rfl) (snapD_nr _ c_ rfl) (snapD_nr _ d_ rfl) (fun c28 => ?_)
          refine sim_let2 (hand_plain (by rfl) _ _) ?_
          exact sim_ret rfl
        · refine sim_let (v := bv (bif (bif (bif (bif c17 then c20 else false) then c23 else false) then c26 else false) then c29 else false)) (pick_b _ _ _) ?_
          exact sim_ret (release_plain (by rfl) _)
theorem tt_spec_SegmentsMeet : PureOK Try.prog n_spec_SegmentsMeet (C4 (fun c : Bool => enc c) t_spec_SegmentsMeet) := pureC4 (Econs tt_spec_l02Point (Econs tt_spec_l05Meet E0)) mixed hb_spec_SegmentsMeet fun a_ b_ c_ d_ => ts_spec_SegmentsMeet _ (by simp [envL]) (by simp [envL]) a_ b_ c_ d_

def t_laws_FnMeets (code_ : Sl UInt8) : Option Bool :=
  obind (t_laws_f6big code_) fun c1 =>
  bif c1 then
    some true
  else
    obind (t_spec_DrawSegmentsMeet code_) fun c3 =>
    obind (t_impl_SegmentsMeet c3.1 c3.2.1 c3.2.2.1 c3.2.2.2) fun c28 =>
    obind (t_impl_TurnOf c3.1 c3.2.1 c3.2.2.1) fun c29 =>
    obind (t_spec_TurnOf c3.1 c3.2.1 c3.2.2.1) fun c30 =>
    obind (t_impl_TurnOf c3.2.1 c3.1 c3.2.2.1) fun c31 =>
    obind (t_spec_DrawCrossingCount code_) fun c32 =>
    obind (t_impl_CrossingCount c32.1 c32.2) fun c51 =>
    obind (t_spec_CrossingCount c32.1 c32.2) fun c52 =>
    obind (t_impl_CrossingCount c32.2 c32.1) fun c53 =>
    obind (t_spec_SegmentsMeet c3.1 c3.2.1 c3.2.2.1 c3.2.2.2) fun c54 =>
    obind (bif !(c28 == c54) then some false else (some (!decide (c29.2 = c30.2)))) fun c56 =>
    obind (bif (bif !(c28 == c54) then true else c56) then some false else (some (!decide (c29.1 = c30.1)))) fun c58 =>
    obind (bif (bif (bif !(c28 == c54) then true else c56) then true else c58) then some false else (some (decide (c29.2 = 0)))) fun c60 =>
    obind (bif (!(bif (bif !(c28 == c54) then true else c56) then true else c58) && c60) then (some (!decide (c31.1 = wr (0 - c29.1)))) else some false) fun c62 =>
    obind (bif (bif (bif !(c28 == c54) then true else c56) then true else c58) then some false else (some (bif c60 then c62 else false))) fun c64 =>
    obind (bif (bif (bif (bif !(c28 == c54) then true else c56) then true else c58) then true else c64) then some false else (some (!decide (c51.2 = c52.2)))) fun c66 =>
    obind (bif (bif (bif (bif (bif !(c28 == c54) then true else c56) then true else c58) then true else c64) then true else c66) then some false else (some (!decide (c51.1 = c52.1)))) fun c68 =>
    obind (bif (bif (bif (bif (bif (bif !(c28 == c54) then true else c56) then true else c58) then true else c64) then true else c66) then true else c68) then some false else (some (!decide (c53.2 = c51.2)))) fun c70 =>
    obind (bif (bif (bif (bif (bif (bif (bif !(c28 == c54) then true else c56) then true else c58) then true else c64) then true else c66) then true else c68) then true else c70) then some false else (some (!decide (c53.1 = c51.1)))) fun c72 =>
    bif (bif (bif (bif (bif (bif (bif (bif !(c28 == c54) then true else c56) then true else c58) then true else c64) then true else c66) then true else c68) then true else c70) then true else c72) then
      some false
    else
      obind (t_impl_SegmentsMeet c3.2.1 c3.1 c3.2.2.1 c3.2.2.2) fun c74 =>
      obind (bif (c74 == c28) then (obind (t_impl_SegmentsMeet c3.2.2.1 c3.2.2.2 c3.1 c3.2.1) fun c76 => some (c76 == c28)) else some false) fun c77 =>
      obind (bif (bif (c74 == c28) then c77 else false) then (obind (t_impl_SegmentsMeet c3.1 c3.2.1 c3.2.2.2 c3.2.2.1) fun c79 => some (c79 == c28)) else some false) fun c80 =>
      some (bif (bif (c74 == c28) then c77 else false) then c80 else false)

theorem ts_laws_FnMeets (env : Nat → Contract) (he_impl_CrossingCount : env n_impl_CrossingCount = .pure (C2 (fun c : Int × Int => AV.tup [enc c.1, enc c.2]) t_impl_CrossingCount)) (he_impl_SegmentsMeet : env n_impl_SegmentsMeet = .pure (C4 (fun c : Bool => enc c) t_impl_SegmentsMeet)) (he_impl_TurnOf : env n_impl_TurnOf = .pure (C3 (fun c : Int × Int => AV.tup [enc c.1, enc c.2]) t_impl_TurnOf)) (he_laws_f6big : env n_laws_f6big = .pure (C1 (fun c : Bool => enc c) t_laws_f6big)) (he_spec_CrossingCount : env n_spec_CrossingCount = .pure (C2 (fun c : Int × Int => AV.tup [enc c.1, enc c.2]) t_spec_CrossingCount)) (he_spec_DrawCrossingCount : env n_spec_DrawCrossingCount = .pure (C1 (fun c : Stroke × Stroke => AV.tup [AV.agg [rS c.1.points], AV.agg [rS c.2.points]]) t_spec_DrawCrossingCount)) (he_spec_DrawSegmentsMeet : env n_spec_DrawSegmentsMeet = .pure (C1 (fun c : Point × Point × Point × Point => AV.tup [enc c.1, enc c.2.1, enc c.2.2.1, enc c.2.2.2]) t_spec_DrawSegmentsMeet)) (he_spec_SegmentsMeet : env n_spec_SegmentsMeet = .pure (C4 (fun c : Bool => enc c) t_spec_SegmentsMeet)) (he_spec_TurnOf : env n_spec_TurnOf = .pure (C3 (fun c : Int × Int => AV.tup [enc c.1, enc c.2]) t_spec_TurnOf)) (code_ : Sl UInt8) : Sim (denFn Try.prog env n_laws_FnMeets [Sl.enc code_] []) (t_laws_FnMeets code_) fun c p => release p.2 depth p.1 = some ((fun c : Bool => enc c) c) := by
  have O := Hold.nil []
  generalize hB : (⟨[], []⟩ : Base) = B at O
  clear hB
  rw [e_laws_FnMeets]
  unfold t_laws_FnMeets
  refine sim_call1 he_laws_f6big (snapD_enc _ _) (fun c1 => ?_)
  refine sim_let2 (hand_plain (by rfl) _ _) ?_
  refine sim_cond (fun c2 => ?_) (fun c2 => ?_)
  · exact sim_ret (release_plain (by rfl) _)
  · refine sim_call1 he_spec_DrawSegmentsMeet (snapD_enc _ _) (fun c3 => ?_)
    refine sim_let2 (hand_plain (by rfl) _ _) ?_
    refine sim_let (v := AV.agg [iv c3.1.x, iv c3.1.y, iv c3.1.t]) rfl ?_
    refine sim_let (v := AV.agg [iv c3.2.1.x, iv c3.2.1.y, iv c3.2.1.t]) rfl ?_
    refine sim_let (v := AV.agg [iv c3.2.2.1.x, iv c3.2.2.1.y, iv c3.2.2.1.t]) rfl ?_
    refine sim_let (v := AV.agg [iv c3.2.2.2.x, iv c3.2.2.2.y, iv c3.2.2.2.t]) rfl ?_
    refine sim_box O (cs := [iv 0, iv 0, iv 0]) (by first | rfl | simp) (fun o4 h5 O6 => ?_)
    replace O6 : Hold B h5 [(AV.ptr o4 1 0 0, .pt 3 [iv 0, iv 0, iv 0])] := O6
    refine sim_box O6 (cs := [iv 0, iv 0, iv 0]) (by first | rfl | simp) (fun o8 h9 O10 => ?_)
    replace O10 : Hold B h9 [(AV.ptr o4 1 0 0, .pt 3 [iv 0, iv 0, iv 0]), (AV.ptr o8 1 0 0, .pt 3 [iv 0, iv 0, iv 0])] := O10
    refine sim_box O10 (cs := [iv 0, iv 0, iv 0]) (by first | rfl | simp) (fun o12 h13 O14 => ?_)
    replace O14 : Hold B h13 [(AV.ptr o4 1 0 0, .pt 3 [iv 0, iv 0, iv 0]), (AV.ptr o8 1 0 0, .pt 3 [iv 0, iv 0, iv 0]), (AV.ptr o12 1 0 0, .pt 3 [iv 0, iv 0, iv 0])] := O14
    refine sim_box O14 (cs := [iv 0, iv 0, iv 0]) (by first | rfl | simp) (fun o16 h17 O18 => ?_)
    replace O18 : Hold B h17 [(AV.ptr o4 1 0 0, .pt 3 [iv 0, iv 0, iv 0]), (AV.ptr o8 1 0 0, .pt 3 [iv 0, iv 0, iv 0]), (AV.ptr o12 1 0 0, .pt 3 [iv 0, iv 0, iv 0]), (AV.ptr o16 1 0 0, .pt 3 [iv 0, iv 0, iv 0])] := O18
    refine sim_store O18 0 (cs' := [iv c3.1.x, iv c3.1.y, iv c3.1.t]) rfl (by first | rfl | simp) (by simp) (by first | rfl | simp) (by first | rfl | simp [splice]) (fun h20 O21 => ?_)
    replace O21 : Hold B h20 [(AV.ptr o4 1 0 0, .pt 3 [iv c3.1.x, iv c3.1.y, iv c3.1.t]), (AV.ptr o8 1 0 0, .pt 3 [iv 0, iv 0, iv 0]), (AV.ptr o12 1 0 0, .pt 3 [iv 0, iv 0, iv 0]), (AV.ptr o16 1 0 0, .pt 3 [iv 0, iv 0, iv 0])] := O21
    refine sim_store O21 1 (cs' := [iv c3.2.1.x, iv c3.2.1.y, iv c3.2.1.t]) rfl (by first | rfl | simp) (by simp) (by first | rfl | simp) (by first | rfl | simp [splice]) (fun h22 O23 => ?_)
    replace O23 : Hold B h22 [(AV.ptr o4 1 0 0, .pt 3 [iv c3.1.x, iv c3.1.y, iv c3.1.t]), (AV.ptr o8 1 0 0, .pt 3 [iv c3.2.1.x, iv c3.2.1.y, iv c3.2.1.t]), (AV.ptr o12 1 0 0, .pt 3 [iv 0, iv 0, iv 0]), (AV.ptr o16 1 0 0, .pt 3 [iv 0, iv 0, iv 0])] := O23
    refine sim_store O23 2 (cs' := [iv c3.2.2.1.x, iv c3.2.2.1.y, iv c3.2.2.1.t]) rfl (by first | rfl | simp) (by simp) (by first | rfl | simp) (by first | rfl | simp [splice]) (fun h24 O25 => ?_)
    replace O25 : Hold B h24 [(AV.ptr o4 1 0 0, .pt 3 [iv c3.1.x, iv c3.1.y, iv c3.1.t]), (AV.ptr o8 1 0 0, .pt 3 [iv c3.2.1.x, iv c3.2.1.y, iv c3.2.1.t]), (AV.ptr o12 1 0 0, .pt 3 [iv c3.2.2.1.x, iv c3.2.2.1.y, iv c3.2.2.1.t]), (AV.ptr o16 1 0 0, .pt 3 [iv 0, iv 0, iv 0])] := O25
    refine sim_store O25 3 (cs' := [iv c3.2.2.2.x, iv c3.2.2.2.y, iv c3.2.2.2.t]) rfl (by first | rfl | simp) (by simp) (by first | rfl | simp) (by first | rfl | simp [splice]) (fun h26 O27 => ?_)
    replace O27 : Hold B h26 [(AV.ptr o4 1 0 0, .pt 3 [iv c3.1.x, iv c3.1.y, iv c3.1.t]), (AV.ptr o8 1 0 0, .pt 3 [iv c3.2.1.x, iv c3.2.1.y, iv c3.2.1.t]), (AV.ptr o12 1 0 0, .pt 3 [iv c3.2.2.1.x, iv c3.2.2.1.y, iv c3.2.2.1.t]), (AV.ptr o16 1 0 0, .pt 3 [iv c3.2.2.2.x, iv c3.2.2.2.y, iv c3.2.2.2.t])] := O27
    refine sim_let (v := AV.agg [iv c3.1.x, iv c3.1.y, iv c3.1.t]) (O27.ld 0 rfl true 3 0) ?_
    refine sim_let (v := AV.agg [iv c3.2.1.x, iv c3.2.1.y, iv c3.2.1.t]) (O27.ld 1 rfl true 3 0) ?_
    refine sim_let (v := AV.agg [iv c3.2.2.1.x, iv c3.2.2.1.y, iv c3.2.2.1.t]) (O27.ld 2 rfl true 3 0) ?_
    refine sim_let (v := AV.agg [iv c3.2.2.2.x, iv c3.2.2.2.y, iv c3.2.2.2.t]) (O27.ld 3 rfl true 3 0) ?_
    refine sim_call4 he_impl_SegmentsMeet (snapD_nr _ c3.1 rfl) (snapD_nr _ c3.2.1 rfl) (snapD_nr _ c3.2.2.1 rfl) (snapD_nr _ c3.2.2.2 rfl) (fun c28 => ?_)
    refine sim_let2 (hand_plain (by rfl) _ _) ?_
    refine sim_let (v := AV.agg [iv c3.1.x, iv c3.1.y, iv c3.1.t]) (O27.ld 0 rfl true 3 0) ?_
    refine sim_let (v := AV.agg [iv c3.2.1.x, iv c3.2.1.y, iv c3.2.1.t]) (O27.ld 1 rfl true 3 0) ?_
    refine sim_let (v := AV.agg [iv c3.2.2.1.x, iv c3.2.2.1.y, iv c3.2.2.1.t]) (O27.ld 2 rfl true 3 0) ?_
    refine sim_call3 he_impl_TurnOf (snapD_nr _ c3.1 rfl) (snapD_nr _ c3.2.1 rfl) (snapD_nr _ c3.2.2.1 rfl) (fun c29 => ?_)
    refine sim_let2 (hand_plain (by rfl) _ _) ?_
    refine sim_let (v := iv c29.1) rfl ?_
    refine sim_let (v := iv c29.2) rfl ?_
    refine sim_let (v := AV.agg [iv c3.1.x, iv c3.1.y, iv c3.1.t]) (O27.ld 0 rfl true 3 0) ?_
    refine sim_let (v := AV.agg [iv c3.2.1.x, iv c3.2.1.y, iv c3.2.1.t]) (O27.ld 1 rfl true 3 0) ?_
    refine sim_let (v := AV.agg [iv c3.2.2.1.x, iv c3.2.2.1.y, iv c3.2.2.1.t]) (O27.ld 2 rfl true 3 0) ?_
    refine sim_call3 he_spec_TurnOf (snapD_nr _ c3.1 rfl) (snapD_nr _ c3.2.1 rfl) (snapD_nr _ c3.2.2.1 rfl) (fun c30 => ?_)
    refine sim_let2 (hand_plain (by rfl) _ _) ?_
    refine sim_let (v := iv c30.1) rfl ?_
    refine sim_let (v := iv c30.2) rfl ?_
    refine sim_let (v := AV.agg [iv c3.2.1.x, iv c3.2.1.y, iv c3.2.1.t]) (O27.ld 1 rfl true 3 0) ?_
    refine sim_let (v := AV.agg [iv c3.1.x, iv c3.1.y, iv c3.1.t]) (O27.ld 0 rfl true 3 0) ?_
    refine sim_let (v := AV.agg [iv c3.2.2.1.x, iv c3.2.2.1.y, iv c3.2.2.1.t]) (O27.ld 2 rfl true 3 0) ?_
    refine sim_call3 he_impl_TurnOf (snapD_nr _ c3.2.1 rfl) (snapD_nr _ c3.1 rfl) (snapD_nr _ c3.2.2.1 rfl) (fun c31 => ?_)
    refine sim_let2 (hand_plain (by rfl) _ _) ?_
    refine sim_let (v := iv c31.1) rfl ?_
    refine sim_let (v := iv c31.2) rfl ?_
    refine sim_call1 he_spec_DrawCrossingCount (snapD_enc _ _) (fun c32 => ?_)
    refine sim_hand2 O27 (c32.1.points : Sl Point) (c32.2.points : Sl Point) (fun z1 z2 => AV.tup [AV.agg [z1], AV.agg [z2]]) (by intro b; simp only [mat_tup, mat_aggD, mat_agg, matLc, matLn, mat_iv, mat_bv, mat_sv, mat_bt, mat_nilS, mat_rS, List.append_nil, List.nil_append, List.length_nil, Nat.add_zero]) (by simp only [noF_tup, noF_aggD, noF_agg, noF_iv, noF_bv, noF_sv, noF_bt, noF_nilS, noF_rS, List.all_cons, List.all_nil, Bool.and_self]) (fun x34 x36 h37 O38 => ?_)
    replace O38 : Hold B h37 [(AV.ptr o4 1 0 0, .pt 3 [iv c3.1.x, iv c3.1.y, iv c3.1.t]), (AV.ptr o8 1 0 0, .pt 3 [iv c3.2.1.x, iv c3.2.1.y, iv c3.2.1.t]), (AV.ptr o12 1 0 0, .pt 3 [iv c3.2.2.1.x, iv c3.2.2.1.y, iv c3.2.2.1.t]), (AV.ptr o16 1 0 0, .pt 3 [iv c3.2.2.2.x, iv c3.2.2.2.y, iv c3.2.2.2.t]), (x34, obS (c32.1.points : Sl Point)), (x36, obS (c32.2.points : Sl Point))] := O38
    refine sim_let (v := AV.agg [x34]) rfl ?_
    refine sim_let (v := AV.agg [x36]) rfl ?_
    refine sim_box O38 (cs := [nilS]) (by first | rfl | simp) (fun o39 h40 O41 => ?_)
    replace O41 : Hold B h40 [(AV.ptr o4 1 0 0, .pt 3 [iv c3.1.x, iv c3.1.y, iv c3.1.t]), (AV.ptr o8 1 0 0, .pt 3 [iv c3.2.1.x, iv c3.2.1.y, iv c3.2.1.t]), (AV.ptr o12 1 0 0, .pt 3 [iv c3.2.2.1.x, iv c3.2.2.1.y, iv c3.2.2.1.t]), (AV.ptr o16 1 0 0, .pt 3 [iv c3.2.2.2.x, iv c3.2.2.2.y, iv c3.2.2.2.t]), (x34, obS (c32.1.points : Sl Point)), (x36, obS (c32.2.points : Sl Point)), (AV.ptr o39 1 0 0, .pt 1 [nilS])] := O41
    refine sim_box O41 (cs := [nilS]) (by first | rfl | simp) (fun o43 h44 O45 => ?_)
    replace O45 : Hold B h44 [(AV.ptr o4 1 0 0, .pt 3 [iv c3.1.x, iv c3.1.y, iv c3.1.t]), (AV.ptr o8 1 0 0, .pt 3 [iv c3.2.1.x, iv c3.2.1.y, iv c3.2.1.t]), (AV.ptr o12 1 0 0, .pt 3 [iv c3.2.2.1.x, iv c3.2.2.1.y, iv c3.2.2.1.t]), (AV.ptr o16 1 0 0, .pt 3 [iv c3.2.2.2.x, iv c3.2.2.2.y, iv c3.2.2.2.t]), (x34, obS (c32.1.points : Sl Point)), (x36, obS (c32.2.points : Sl Point)), (AV.ptr o39 1 0 0, .pt 1 [nilS]), (AV.ptr o43 1 0 0, .pt 1 [nilS])] := O45
    refine sim_store O45 6 (cs' := [x34]) rfl (by first | rfl | simp [(O45.one (A := Point) (s := c32.1.points) 4 rfl).1, (O45.one (A := Point) (s := c32.1.points) 4 rfl).2]) (by simp) (by first | rfl | simp [(O45.one (A := Point) (s := c32.1.points) 4 rfl).1, (O45.one (A := Point) (s := c32.1.points) 4 rfl).2]) (by first | rfl | simp [splice, (O45.one (A := Point) (s := c32.1.points) 4 rfl).1, (O45.one (A := Point) (s := c32.1.points) 4 rfl).2]) (fun h47 O48 => ?_)
    replace O48 : Hold B h47 [(AV.ptr o4 1 0 0, .pt 3 [iv c3.1.x, iv c3.1.y, iv c3.1.t]), (AV.ptr o8 1 0 0, .pt 3 [iv c3.2.1.x, iv c3.2.1.y, iv c3.2.1.t]), (AV.ptr o12 1 0 0, .pt 3 [iv c3.2.2.1.x, iv c3.2.2.1.y, iv c3.2.2.1.t]), (AV.ptr o16 1 0 0, .pt 3 [iv c3.2.2.2.x, iv c3.2.2.2.y, iv c3.2.2.2.t]), (x34, obS (c32.1.points : Sl Point)), (x36, obS (c32.2.points : Sl Point)), (AV.ptr o39 1 0 0, .pt 1 [x34]), (AV.ptr o43 1 0 0, .pt 1 [nilS])] := O48
    refine sim_store O48 7 (cs' := [x36]) rfl (by first | rfl | simp [(O48.one (A := Point) (s := c32.2.points) 5 rfl).1, (O48.one (A := Point) (s := c32.2.points) 5 rfl).2]) (by simp) (by first | rfl | simp [(O48.one (A := Point) (s := c32.2.points) 5 rfl).1, (O48.one (A := Point) (s := c32.2.points) 5 rfl).2]) (by first | rfl | simp [splice, (O48.one (A := Point) (s := c32.2.points) 5 rfl).1, (O48.one (A := Point) (s := c32.2.points) 5 rfl).2]) (fun h49 O50 => ?_)
    replace O50 : Hold B h49 [(AV.ptr o4 1 0 0, .pt 3 [iv c3.1.x, iv c3.1.y, iv c3.1.t]), (AV.ptr o8 1 0 0, .pt 3 [iv c3.2.1.x, iv c3.2.1.y, iv c3.2.1.t]), (AV.ptr o12 1 0 0, .pt 3 [iv c3.2.2.1.x, iv c3.2.2.1.y, iv c3.2.2.1.t]), (AV.ptr o16 1 0 0, .pt 3 [iv c3.2.2.2.x, iv c3.2.2.2.y, iv c3.2.2.2.t]), (x34, obS (c32.1.points : Sl Point)), (x36, obS (c32.2.points : Sl Point)), (AV.ptr o39 1 0 0, .pt 1 [x34]), (AV.ptr o43 1 0 0, .pt 1 [x36])] := O50
    refine sim_let (v := AV.agg [x34]) (O50.ld 6 rfl true 1 0) ?_
    refine sim_let (v := AV.agg [x36]) (O50.ld 7 rfl true 1 0) ?_
    refine sim_call2 he_impl_CrossingCount (snapD_own h49 c32.1 rfl (by simp [omap, O50.snap7 (A := Point) (s := c32.1.points) 4 rfl])) (snapD_own h49 c32.2 rfl (by simp [omap, O50.snap7 (A := Point) (s := c32.2.points) 5 rfl])) (fun c51 => ?_)
    refine sim_let2 (hand_plain (by rfl) _ _) ?_
    refine sim_let (v := iv c51.1) rfl ?_
    refine sim_let (v := iv c51.2) rfl ?_
    refine sim_let (v := AV.agg [x34]) (O50.ld 6 rfl true 1 0) ?_
    refine sim_let (v := AV.agg [x36]) (O50.ld 7 rfl true 1 0) ?_
    refine sim_call2 he_spec_CrossingCount (snapD_own h49 c32.1 rfl (by simp [omap, O50.snap7 (A := Point) (s := c32.1.points) 4 rfl])) (snapD_own h49 c32.2 rfl (by simp [omap, O50.snap7 (A := Point) (s := c32.2.points) 5 rfl])) (fun c52 => ?_)
    refine sim_let2 (hand_plain (by rfl) _ _) ?_
    refine sim_let (v := iv c52.1) rfl ?_
    refine sim_let (v := iv c52.2) rfl ?_
    refine sim_let (v := AV.agg [x36]) (O50.ld 7 rfl true 1 0) ?_
    refine sim_let (v := AV.agg [x34]) (O50.ld 6 rfl true 1 0) ?_
    refine sim_call2 he_impl_CrossingCount (snapD_own h49 c32.2 rfl (by simp [omap, O50.snap7 (A := Point) (s := c32.2.points) 5 rfl])) (snapD_own h49 c32.1 rfl (by simp [omap, O50.snap7 (A := Point) (s := c32.1.points) 4 rfl])) (fun c53 => ?_)
    refine sim_let2 (hand_plain (by rfl) _ _) ?_
    refine sim_let (v := iv c53.1) rfl ?_
    refine sim_let (v := iv c53.2) rfl ?_
    refine sim_let (v := AV.agg [iv c3.1.x, iv c3.1.y, iv c3.1.t]) (O50.ld 0 rfl true 3 0) ?_
    refine sim_let (v := AV.agg [iv c3.2.1.x, iv c3.2.1.y, iv c3.2.1.t]) (O50.ld 1 rfl true 3 0) ?_
    refine sim_let (v := AV.agg [iv c3.2.2.1.x, iv c3.2.2.1.y, iv c3.2.2.1.t]) (O50.ld 2 rfl true 3 0) ?_
    refine sim_let (v := AV.agg [iv c3.2.2.2.x, iv c3.2.2.2.y, iv c3.2.2.2.t]) (O50.ld 3 rfl true 3 0) ?_
    refine sim_call4 he_spec_SegmentsMeet (snapD_nr _ c3.1 rfl) (snapD_nr _ c3.2.1 rfl) (snapD_nr _ c3.2.2.1 rfl) (snapD_nr _ c3.2.2.2 rfl) (fun c54 => ?_)
    refine sim_let2 (hand_plain (by rfl) _ _) ?_
    refine sim_let (v := bv (!(c28 == c54))) (aCmp_neB _ _) ?_
    refine sim_guardF (e := bv) (fun hb55 => ?_) (fun c56 => ?_)
    · refine sim_let (v := bv (!decide (c29.2 = c30.2))) (aCmp_ne _ _) ?_
      exact sim_ret rfl
    · refine sim_let (v := bv (bif !(c28 == c54) then true else c56)) (pick_b' _ _ _) ?_
      refine sim_guardF (e := bv) (fun hb57 => ?_) (fun c58 => ?_)
      · refine sim_let (v := bv (!decide (c29.1 = c30.1))) (aCmp_ne _ _) ?_
        exact sim_ret rfl
      · refine sim_let (v := bv (bif (bif !(c28 == c54) then true else c56) then true else c58)) (pick_b' _ _ _) ?_
        refine sim_guardF (e := bv) (fun hb59 => ?_) (fun c60 => ?_)
        · refine sim_let (v := bv (decide (c29.2 = 0))) (aCmp_eq _ _) ?_
          exact sim_ret rfl
        · simp only [gv_FT]
          refine sim_guardT (e := bv) (fun hb61 => ?_) (fun c62 => ?_)
          · refine sim_let (v := iv (wr (0 - c29.1))) (aUn_neg _) ?_
            refine sim_let (v := bv (!decide (c31.1 = wr (0 - c29.1)))) (aCmp_ne _ _) ?_
            exact sim_ret rfl
          · refine sim_guardF (e := bv) (fun hb63 => ?_) (fun c64 => ?_)
            · simp only [hb63, cond_true, cond_false, Bool.not_true, Bool.not_false, Bool.true_and, Bool.and_true, Bool.false_and, Bool.not_not]
              refine sim_let (v := bv (bif c60 then c62 else false)) (pick_b _ _ _) ?_
              exact sim_ret rfl
            · refine sim_let (v := bv (bif (bif (bif !(c28 == c54) then true else c56) then true else c58) then true else c64)) (pick_b' _ _ _) ?_
              refine sim_guardF (e := bv) (fun hb65 => ?_) (fun c66 => ?_)
              · refine sim_let (v := bv (!decide (c51.2 = c52.2))) (aCmp_ne _ _) ?_
                exact sim_ret rfl
              · refine sim_let (v := bv (bif (bif (bif (bif !(c28 == c54) then true else c56) then true else c58) then true else c64) then true else c66)) (pick_b' _ _ _) ?_
                refine sim_guardF (e := bv) (fun hb67 => ?_) (fun c68 => ?_)
                · refine sim_let (v := bv (!decide (c51.1 = c52.1))) (aCmp_ne _ _) ?_
                  exact sim_ret rfl
                · refine sim_let (v := bv (bif (bif (bif (bif (bif !(c28 == c54) then true else c56) then true else c58) then true else c64) then true else c66) then true else c68)) (pick_b' _ _ _) ?_
                  refine sim_guardF (e := bv) (fun hb69 => ?_) (fun c70 => ?_)
                  · refine sim_let (v := bv (!decide (c53.2 = c51.2))) (aCmp_ne _ _) ?_
                    exact sim_ret rfl
                  · refine sim_let (v := bv (bif (bif (bif (bif (bif (bif !(c28 == c54) then true else c56) then true else c58) then true else c64) then true else c66) then true else c68) then true else c70)) (pick_b' _ _ _) ?_
                    refine sim_guardF (e := bv) (fun hb71 => ?_) (fun c72 => ?_)
                    · refine sim_let (v := bv (!decide (c53.1 = c51.1))) (aCmp_ne _ _) ?_
                      exact sim_ret rfl
                    · refine sim_let (v := bv (bif (bif (bif (bif (bif (bif (bif !(c28 == c54) then true else c56) then true else c58) then true else c64) then true else c66) then true else c68) then true else c70) then true else c72)) (pick_b' _ _ _) ?_
                      refine sim_cond (fun c73 => ?_) (fun c73 => ?_)
                      · exact sim_ret (release_plain (by rfl) _)
                      · refine sim_let (v := AV.agg [iv c3.2.1.x, iv c3.2.1.y, iv c3.2.1.t]) (O50.ld 1 rfl true 3 0) ?_
                        refine sim_let (v := AV.agg [iv c3.1.x, iv c3.1.y, iv c3.1.t]) (O50.ld 0 rfl true 3 0) ?_
                        refine sim_let (v := AV.agg [iv c3.2.2.1.x, iv c3.2.2.1.y, iv c3.2.2.1.t]) (O50.ld 2 rfl true 3 0) ?_
                        refine sim_let (v := AV.agg [iv c3.2.2.2.x, iv c3.2.2.2.y, iv c3.2.2.2.t]) (O50.ld 3 rfl true 3 0) ?_
                        refine sim_call4 he_impl_SegmentsMeet (snapD_nr _ c3.2.1 rfl) (snapD_nr _ c3.1 rfl) (snapD_nr _ c3.2.2.1 rfl) (snapD_nr _ c3.2.2.2 rfl) (fun c74 => ?_)
                        refine sim_let2 (hand_plain (by rfl) _ _) ?_
                        refine sim_let (v := bv (c74 == c28)) (aCmp_eqB _ _) ?_
                        refine sim_guardT (e := bv) (fun hb75 => ?_) (fun c77 => ?_)
                        · refine sim_let (v := AV.agg [iv c3.2.2.1.x, iv c3.2.2.1.y, iv c3.2.2.1.t]) (O50.ld 2 rfl true 3 0) ?_
                          refine sim_let (v := AV.agg [iv c3.2.2.2.x, iv c3.2.2.2.y, iv c3.2.2.2.t]) (O50.ld 3 rfl true 3 0) ?_
                          refine sim_let (v := AV.agg [iv c3.1.x, iv c3.1.y, iv c3.1.t]) (O50.ld 0 rfl true 3 0) ?_
                          refine sim_let (v := AV.agg [iv c3.2.1.x, iv c3.2.1.y, iv c3.2.1.t]) (O50.ld 1 rfl true 3 0) ?_
                          refine sim_call4 he_impl_SegmentsMeet (snapD_nr _ c3.2.2.1 rfl) (snapD_nr _ c3.2.2.2 rfl) (snapD_nr _ c3.1 rfl) (snapD_nr _ c3.2.1 rfl) (fun c76 => ?_)
                          refine sim_let2 (hand_plain (by rfl) _ _) ?_
                          refine sim_let (v := bv (c76 == c28)) (aCmp_eqB _ _) ?_
                          exact sim_ret rfl
                        · refine sim_let (v := bv (bif (c74 == c28) then c77 else false)) (pick_b _ _ _) ?_
                          refine sim_guardT (e := bv) (fun hb78 => ?_) (fun c80 => ?_)
                          · refine sim_let (v := AV.agg [iv c3.1.x, iv c3.1.y, iv c3.1.t]) (O50.ld 0 rfl true 3 0) ?_
                            refine sim_let (v := AV.agg [iv c3.2.1.x, iv c3.2.1.y, iv c3.2.1.t]) (O50.ld 1 rfl true 3 0) ?_
                            refine sim_let (v := AV.agg [iv c3.2.2.2.x, iv c3.2.2.2.y, iv c3.2.2.2.t]) (O50.ld 3 rfl true 3 0) ?_
                            refine sim_let (v := AV.agg [iv c3.2.2.1.x, iv c3.2.2.1.y, iv c3.2.2.1.t]) (O50.ld 2 rfl true 3 0) ?_
                            refine sim_call4 he_impl_SegmentsMeet (snapD_nr _ c3.1 rfl) (snapD_nr _ c3.2.1 rfl) (snapD_nr _ c3.2.2.2 rfl) (snapD_nr _ c3.2.2.1 rfl) (fun c79 => ?_)
                            refine sim_let2 (hand_plain (by rfl) _ _) ?_
                            refine sim_let (v := bv (c79 == c28)) (aCmp_eqB _ _) ?_
                            exact sim_ret rfl
                          · refine sim_let (v := bv (bif (bif (c74 == c28) then c77 else false) then c80 else false)) (pick_b _ _ _) ?_
                            exact sim_ret (release_plain (by rfl) _)
theorem tt_laws_FnMeets : PureOK Try.prog n_laws_FnMeets (C1 (fun c : Bool => enc c) t_laws_FnMeets) := pureC1 (Econs tt_impl_CrossingCount (Econs tt_impl_SegmentsMeet (Econs tt_impl_TurnOf (Econs tt_laws_f6big (Econs tt_spec_CrossingCount (Econs tt_spec_DrawCrossingCount (Econs tt_spec_DrawSegmentsMeet (Econs tt_spec_SegmentsMeet (Econs tt_spec_TurnOf E0))))))))) mixed hb_laws_FnMeets fun code_ => ts_laws_FnMeets _ (by simp [envL]) (by simp [envL]) (by simp [envL]) (by simp [envL]) (by simp [envL]) (by simp [envL]) (by simp [envL]) (by simp [envL]) (by simp [envL]) code_

/-- The source has been read up to `k` at most. -/
structure SK (s : l00Src) (k : Int) : Prop where
  lo : 0 ≤ s.pos
  hi : s.pos ≤ k

theorem SK.mono {s : l00Src} {k k' : Int} (h : SK s k) (hk : k ≤ k') : SK s k' := ⟨h.lo, by have := h.hi; omega⟩

theorem and255 (a : Int) : 0 ≤ wr (IntKind.u64.wrap ((BitVec.ofInt 64 a &&& BitVec.ofInt 64 255).toNat : Nat)) ∧ wr (IntKind.u64.wrap ((BitVec.ofInt 64 a &&& BitVec.ofInt 64 255).toNat : Nat)) ≤ 255 := by
  have h1 : (BitVec.ofInt 64 a &&& BitVec.ofInt 64 255).toNat ≤ 255 := by
    rw [BitVec.toNat_and]
    have : (BitVec.ofInt 64 255).toNat = 255 := by decide
    rw [this]
    exact Nat.and_le_right
  generalize (BitVec.ofInt 64 a &&& BitVec.ofInt 64 255).toNat = r at h1
  have h2 : IntKind.u64.wrap (r : Int) = r := by
    simp only [IntKind.wrap, IntKind.bits, IntKind.signed]
    simp only [Bool.false_and, Bool.false_eq_true, if_false]
    omega
  rw [h2, wr_id (by omega) (by omega)]
  omega

theorem getI_in {A : Type} {l : List A} {i : Int} (h0 : 0 ≤ i) (h1 : i < (l.length : Nat)) : ∃ a, getI l i = some a ∧ l[i.toNat]? = some a := by
  obtain ⟨m, rfl⟩ := Int.eq_ofNat_of_zero_le h0
  have h2 : m < l.length := by omega
  exact ⟨l[m], getI_nat (List.getElem?_eq_getElem h2), by simp [h2]⟩

theorem remI_pos {a b : Int} (ha : 0 ≤ a) (hb : 0 < b) : ∃ r, remI a b = some r ∧ 0 ≤ r ∧ r < b := by
  refine ⟨a.tmod b, ?_, Int.tmod_nonneg b ha, Int.tmod_lt_of_pos a hb⟩
  have : ¬ b = 0 := by omega
  simp [remI, this]

theorem dr_next {s : l00Src} {k : Int} (h : SK s k) (hk : k ≤ 1000000000000) : ∃ r s', t_spec_l00Src_next s = some (r, s') ∧ SK s' (k + 1) ∧ 0 ≤ r ∧ r ≤ 255 := by
  obtain ⟨h1, h2⟩ := h
  have w : wr (s.pos + 1) = s.pos + 1 := wr_id (by omega) (by omega)
  have b1 := fun a => (and255 a).1
  have b2 := fun a => (and255 a).2
  unfold t_spec_l00Src_next
  rw [w]
  by_cases c : s.pos < ((s.code.getD []).length : Nat)
  · obtain ⟨a, ha, _⟩ := getI_in h1 c
    have c2 : s.pos + 1 ≤ ((s.code.getD []).length : Nat) := by omega
    have := a.toNat_lt
    simp only [c, decide_true, cond_true, ha, obind_sm, c2]
    exact ⟨_, _, rfl, ⟨by simp only; omega, by simp only; omega⟩, by omega, by omega⟩
  · have c2 : ¬ s.pos + 1 ≤ ((s.code.getD []).length : Nat) := by omega
    simp only [c, decide_false, cond_false, c2]
    exact ⟨_, _, rfl, ⟨by simp only; omega, by simp only; omega⟩, b1 _, b2 _⟩

theorem dr_pick {s : l00Src} {k : Int} (h : SK s k) (hk : k ≤ 100000000000) {n : Int} (hn : n ≤ 60000) : ∃ r s', t_spec_l00Src_pick s n = some (r, s') ∧ SK s' (k + 2) ∧ 0 ≤ r ∧ (1 ≤ n → r < n) ∧ (n ≤ 1 → r = 0) := by
  unfold t_spec_l00Src_pick
  by_cases c : n ≤ 1
  · simp only [c, decide_true, cond_true]
    exact ⟨0, _, rfl, ⟨h.lo, by have := h.hi; simp only; omega⟩, by omega, fun _ => by omega, fun _ => rfl⟩
  · obtain ⟨r1, s1, e1, k1, p1, q1⟩ := dr_next h (by omega)
    simp only [c, decide_false, cond_false]
    have e1' : t_spec_l00Src_next ⟨s.code, s.pos, s.seed⟩ = some (r1, s1) := e1
    rw [e1', obind_sm]
    by_cases c2 : 200 < n
    · obtain ⟨r2, s2, e2, k2, p2, q2⟩ := dr_next k1 (by omega)
      have e2' : t_spec_l00Src_next ⟨s1.code, s1.pos, s1.seed⟩ = some (r2, s2) := e2
      have w1 : wr (r1 * 256) = r1 * 256 := wr_id (by omega) (by omega)
      have w2 : wr (r1 * 256 + r2) = r1 * 256 + r2 := wr_id (by omega) (by omega)
      obtain ⟨q, e3, p3, q3⟩ := remI_pos (a := r1 * 256 + r2) (b := n) (by omega) (by omega)
      simp only [c2, decide_true, cond_true, e2', obind_sm, w1, w2, e3]
      exact ⟨_, _, rfl, ⟨k2.lo, by have := k2.hi; simp only; omega⟩, p3, fun _ => q3, fun h => False.elim h⟩
    · obtain ⟨q, e3, p3, q3⟩ := remI_pos (a := r1) (b := n) (by omega) (by omega)
      simp only [c2, decide_false, cond_false, e3, obind_sm]
      exact ⟨_, _, rfl, ⟨k1.lo, by have := k1.hi; simp only; omega⟩, p3, fun _ => q3, fun h => False.elim h⟩

theorem dr_one {s : l00Src} {k : Int} (h : SK s k) (hk : k ≤ 100000000000) {n : Int} (hn : n ≤ 60000) : ∃ b s', t_spec_l00Src_one s n = some (b, s') ∧ SK s' (k + 2) := by
  obtain ⟨r, s', e, k', _⟩ := dr_pick h hk hn
  have e' : t_spec_l00Src_pick ⟨s.code, s.pos, s.seed⟩ n = some (r, s') := e
  unfold t_spec_l00Src_one
  simp only [e', obind_sm]
  exact ⟨_, _, rfl, k'⟩

theorem dr_among {s : l00Src} {k : Int} (h : SK s k) (hk : k ≤ 100000000000) {l : List Int} (h0 : l ≠ []) (hl : l.length ≤ 60000) : ∃ r s', t_spec_l00Src_among s (some l) = some (r, s') ∧ SK s' (k + 2) ∧ r ∈ l := by
  have hp : 0 < l.length := List.length_pos_iff.2 h0
  obtain ⟨r, s', e, k', p, q, _⟩ := dr_pick h hk (n := (l.length : Nat)) (by omega)
  have e' : t_spec_l00Src_pick ⟨s.code, s.pos, s.seed⟩ (l.length : Nat) = some (r, s') := e
  obtain ⟨a, ha, ha2⟩ := getI_in (l := l) p (q (by omega))
  unfold t_spec_l00Src_among
  simp only [Option.getD_some, e', obind_sm, ha]
  exact ⟨_, _, rfl, k', List.mem_of_getElem? ha2⟩

theorem wr_succ {k n : Nat} (h : k < n) (hn : n ≤ 4294967296) : wr ((k : Int) + 1) = ((k + 1 : Nat) : Int) := by
  rw [wr_id (by omega) (by omega)]
  omega

theorem get_lt {A : Type} {l : List A} {k : Nat} {a : A} (h : l[k]? = some a) : k < l.length := (List.getElem?_eq_some_iff.1 h).1

/-- A point that is one; the points of a stroke that is one. -/
structure PtV (p : Point) : Prop where
  x0 : 0 ≤ p.x
  x1 : p.x ≤ 4095
  y0 : 0 ≤ p.y
  y1 : p.y ≤ 4095
  t0 : 0 ≤ p.t
  t1 : p.t ≤ 3600000

structure StV (l : List Point) : Prop where
  pts : ∀ p ∈ l, PtV p
  inc : ∀ (k : Nat) p q, l[k]? = some p → l[k + 1]? = some q → p.t < q.t
  n1 : 1 ≤ l.length
  n2 : l.length ≤ 60

/-- Points of a bounded size. -/
structure PtB (p : Point) : Prop where
  x0 : -10000000 ≤ p.x
  x1 : p.x ≤ 10000000
  y0 : -10000000 ≤ p.y
  y1 : p.y ≤ 10000000
  t0 : -10000000 ≤ p.t
  t1 : p.t ≤ 10000000

structure StB (s : Stroke) : Prop where
  n : (s.points.getD []).length ≤ 100
  pts : ∀ p ∈ s.points.getD [], PtB p

theorem PtV.b {p : Point} (h : PtV p) : PtB p := by
  obtain ⟨h1, h2, h3, h4, h5, h6⟩ := h
  exact ⟨by omega, by omega, by omega, by omega, by omega, by omega⟩

theorem StV.b {l : List Point} (h : StV l) : StB ⟨some l⟩ := ⟨Nat.le_trans h.n2 (by omega), fun p hp => (h.pts p hp).b⟩

theorem appS_cons {A : Type} (s : Sl A) (a : A) (l : List A) : appS s (a :: l) = some (s.getD [] ++ a :: l) := by cases s <;> rfl

theorem appO_one {A : Type} (s : Sl A) (a : A) (h : (s.getD []).length ≤ 1000000) : appO s [a] = some (some (s.getD [] ++ [a])) := by
  rw [appO_some (by simp; omega), appS_cons]

theorem inc_app {l : List Point} {p : Point} (h : ∀ (k : Nat) p q, l[k]? = some p → l[k + 1]? = some q → p.t < q.t) (hp : ∀ q ∈ l, q.t < p.t) : ∀ (k : Nat) a b, (l ++ [p])[k]? = some a → (l ++ [p])[k + 1]? = some b → a.t < b.t := by
  intro k a b h1 h2
  have hk := get_lt h2
  simp only [List.length_append, List.length_cons, List.length_nil] at hk
  rw [List.getElem?_append_left (by omega)] at h1
  by_cases c : k + 1 < l.length
  · rw [List.getElem?_append_left c] at h2
    exact h k a b h1 h2
  · have e : k + 1 = l.length := by omega
    rw [e, List.getElem?_append_right (Nat.le_refl _), Nat.sub_self] at h2
    simp at h2
    subst h2
    exact hp a (List.mem_of_getElem? h1)

theorem cl_4095 (x : Int) : 0 ≤ max (0 : Int) (min 4095 x) ∧ max (0 : Int) (min 4095 x) ≤ 4095 := by omega

/-- What the drawing of a stroke keeps. -/
structure StI (s : Sl Point) (i : Nat) (t0 t : Int) : Prop where
  len : (s.getD []).length = i
  som : 0 < i → ∃ l, s = .some l
  pts : ∀ p ∈ s.getD [], PtV p ∧ t0 ≤ p.t ∧ p.t < t
  inc : ∀ (k : Nat) p q, (s.getD [])[k]? = some p → (s.getD [])[k + 1]? = some q → p.t < q.t

theorem StI.step {s : Sl Point} {i : Nat} {t0 t t' x y : Int} (h : StI s i t0 t) (hx : 0 ≤ x ∧ x ≤ 4095) (hy : 0 ≤ y ∧ y ≤ 4095) (ht : t0 ≤ t) (h0 : 0 ≤ t0) (h1 : t ≤ 3600000) (ht' : t < t') : StI (some (s.getD [] ++ [⟨x, y, t⟩])) (i + 1) t0 t' := by
  refine ⟨by simp [h.len], fun _ => ⟨_, rfl⟩, fun p hp => ?_, inc_app h.inc fun q hq => (h.pts q hq).2.2⟩
  rcases List.mem_append.1 hp with hp | hp
  · have := h.pts p hp
    exact ⟨this.1, this.2.1, by omega⟩
  · simp only [List.mem_singleton] at hp
    subst hp
    exact ⟨⟨hx.1, hx.2, hy.1, hy.2, by simp only; omega, by simp only; omega⟩, ht, ht'⟩

theorem dr_stroke {s : l00Src} {k : Int} (h : SK s k) (hk : k ≤ 1000000000) {time x y : Int} (t0 : 0 ≤ time) (t1 : time ≤ 3000000) (hx : 0 ≤ x ∧ x ≤ 4095) (hy : 0 ≤ y ∧ y ≤ 4095) :
    ∃ l s', t_spec_l02DrawStroke s time x y = some (⟨some l⟩, s') ∧ SK s' (k + 1000) ∧ StV l ∧ l.length ≤ 10 ∧ ∀ p ∈ l, time ≤ p.t ∧ p.t ≤ time + 300 := by
  obtain ⟨r1, s1, e1, k1, p1, q1, _⟩ := dr_pick h (by omega) (n := 60) (by omega)
  obtain ⟨r2, s2, e2, k2, p2, q2, _⟩ := dr_pick k1 (by omega) (n := 60) (by omega)
  obtain ⟨r3, s3, e3, k3, p3, q3, _⟩ := dr_pick k2 (by omega) (n := 10) (by omega)
  have q1' := q1 (by omega)
  have q2' := q2 (by omega)
  have q3' := q3 (by omega)
  have w1 : wr (1 + r3) = 1 + r3 := wr_id (by omega) (by omega)
  have w2 : wr (r1 - 20) = r1 - 20 := wr_id (by omega) (by omega)
  have w3 : wr (r2 - 30) = r2 - 30 := wr_id (by omega) (by omega)
  obtain ⟨N, hN⟩ := Int.eq_ofNat_of_zero_le (a := 1 + r3) (by omega)
  unfold t_spec_l02DrawStroke
  simp only [e1, e2, e3, obind_sm, w1, w2, w3]
  obtain ⟨⟨c1, c2, c3, c4⟩, f1, f2, f3⟩ := loopT_ex (step := s0_spec_l02DrawStroke) (fun i (t : (Sl UInt8) × Int × Int × (Sl Point) × Int × Int × Int × Int × Int × Int) => SK ⟨t.1, t.2.1, t.2.2.1⟩ (k + 6 + 12 * i) ∧ StI t.2.2.2.1 i time t.2.2.2.2.1 ∧ (time ≤ t.2.2.2.2.1 ∧ t.2.2.2.2.1 ≤ time + 20 * i) ∧
      (0 ≤ t.2.2.2.2.2.1 ∧ t.2.2.2.2.2.1 ≤ 4095) ∧ (0 ≤ t.2.2.2.2.2.2.1 ∧ t.2.2.2.2.2.2.1 ≤ 4095) ∧ (-100 ≤ t.2.2.2.2.2.2.2.1 ∧ t.2.2.2.2.2.2.2.1 ≤ 100) ∧ (-100 ≤ t.2.2.2.2.2.2.2.2.1 ∧ t.2.2.2.2.2.2.2.2.1 ≤ 100) ∧ t.2.2.2.2.2.2.2.2.2 = N - (i : Int))
    N (fun r => SK ⟨r.1, r.2.1, r.2.2.1⟩ (k + 6 + 12 * N) ∧ StI r.2.2.2 N time (time + 20 * N + 1))
    (fun i ⟨v1, v2, v3, v4, v5, v6, v7, v8, v9, v10⟩ hi ⟨g1, g2, g3, g4, g5, g6, g7, g8⟩ => by
      simp only at g1 g2 g3 g4 g5 g6 g7 g8
      obtain ⟨r4, s4, e4, k4, p4, q4, _⟩ := dr_pick g1 (by omega) (n := 20) (by omega)
      obtain ⟨r5, s5, e5, k5, p5, q5, _⟩ := dr_pick k4 (by omega) (n := 9) (by omega)
      obtain ⟨r6, s6, e6, k6, p6, q6, _⟩ := dr_pick k5 (by omega) (n := 9) (by omega)
      obtain ⟨b7, s7, e7, k7⟩ := dr_one k6 (by omega) (n := 3) (by omega)
      have q4' := q4 (by omega)
      have q5' := q5 (by omega)
      have q6' := q6 (by omega)
      have a0 := appO_one v4 (⟨v6, v7, v5⟩ : Point) (by rw [g2.len]; omega)
      have a0' : appS v4 [(⟨v6, v7, v5⟩ : Point)] = some (v4.getD [] ++ [⟨v6, v7, v5⟩]) := appS_cons _ _ _
      have a1 : wr (v6 + v8) = v6 + v8 := wr_id (by omega) (by omega)
      have a2 : wr (v6 + v8 + r5) = v6 + v8 + r5 := wr_id (by omega) (by omega)
      have a3 : wr (v6 + v8 + r5 - 4) = v6 + v8 + r5 - 4 := wr_id (by omega) (by omega)
      have a4 : wr (v7 + v9) = v7 + v9 := wr_id (by omega) (by omega)
      have a5 : wr (v7 + v9 + r6) = v7 + v9 + r6 := wr_id (by omega) (by omega)
      have a6 : wr (v7 + v9 + r6 - 4) = v7 + v9 + r6 - 4 := wr_id (by omega) (by omega)
      have a7 : wr (1 + r4) = 1 + r4 := wr_id (by omega) (by omega)
      have a8 : wr (v5 + (1 + r4)) = v5 + (1 + r4) := wr_id (by omega) (by omega)
      have a9 : wr (v10 - 1) = v10 - 1 := wr_id (by omega) (by omega)
      have c : 0 < v10 := by omega
      have st := g2.step (x := v6) (y := v7) (t' := v5 + (1 + r4)) g4 g5 (by omega) (by omega) (by omega) (by omega)
      cases b7 with
      | true =>
        obtain ⟨r8, s8, e8, k8, p8, q8, _⟩ := dr_pick k7 (by omega) (n := 80) (by omega)
        obtain ⟨r9, s9, e9, k9, p9, q9, _⟩ := dr_pick k8 (by omega) (n := 80) (by omega)
        have q8' := q8 (by omega)
        have q9' := q9 (by omega)
        have b1 : wr (r8 - 40) = r8 - 40 := wr_id (by omega) (by omega)
        have b2 : wr (r9 - 40) = r9 - 40 := wr_id (by omega) (by omega)
        have e : s0_spec_l02DrawStroke (v1, v2, v3, v4, v5, v6, v7, v8, v9, v10) = some (.inl (s9.code, s9.pos, s9.seed, some (v4.getD [] ++ [⟨v6, v7, v5⟩]), v5 + (1 + r4), max 0 (min 4095 (v6 + v8 + r5 - 4)), max 0 (min 4095 (v7 + v9 + r6 - 4)), r8 - 40, r9 - 40, v10 - 1)) := by
          unfold s0_spec_l02DrawStroke
          simp only [c, decide_true, cond_true, e4, e5, e6, e7, e8, e9, obind_sm, a0, a0', a1, a2, a3, a4, a5, a6, a7, a8, a9, b1, b2]
        exact .inl ⟨_, e, k9.mono (by omega), st, ⟨by simp only; omega, by simp only; omega⟩, cl_4095 _, cl_4095 _, ⟨by simp only; omega, by simp only; omega⟩, ⟨by simp only; omega, by simp only; omega⟩, by simp only; omega⟩
      | false =>
        have e : s0_spec_l02DrawStroke (v1, v2, v3, v4, v5, v6, v7, v8, v9, v10) = some (.inl (s7.code, s7.pos, s7.seed, some (v4.getD [] ++ [⟨v6, v7, v5⟩]), v5 + (1 + r4), max 0 (min 4095 (v6 + v8 + r5 - 4)), max 0 (min 4095 (v7 + v9 + r6 - 4)), v8, v9, v10 - 1)) := by
          unfold s0_spec_l02DrawStroke
          simp only [c, decide_true, cond_true, cond_false, e4, e5, e6, e7, obind_sm, a0, a0', a1, a2, a3, a4, a5, a6, a7, a8, a9]
        exact .inl ⟨_, e, k7.mono (by omega), st, ⟨by simp only; omega, by simp only; omega⟩, cl_4095 _, cl_4095 _, g6, g7, by simp only; omega⟩)
    (fun ⟨v1, v2, v3, v4, v5, v6, v7, v8, v9, v10⟩ ⟨g1, g2, g3, g4, g5, g6, g7, g8⟩ => by
      simp only at g1 g2 g3 g8
      have c : ¬ 0 < v10 := by omega
      have e : s0_spec_l02DrawStroke (v1, v2, v3, v4, v5, v6, v7, v8, v9, v10) = some (.inr (v1, v2, v3, v4)) := by
        unfold s0_spec_l02DrawStroke
        simp only [c, decide_false, cond_false]
      refine ⟨_, e, g1, g2.len, g2.som, fun p hp => ?_, g2.inc⟩
      have := g2.pts p hp
      exact ⟨this.1, this.2.1, by omega⟩)
    (s := (s3.code, s3.pos, s3.seed, none, time, x, y, r1 - 20, r2 - 30, 1 + r3)) ⟨k3.mono (by omega), ⟨rfl, fun h => by omega, fun p hp => (by cases hp), fun k p q h1 _ => (by simp at h1)⟩, ⟨by simp only; omega, by simp only; omega⟩, hx, hy, ⟨by simp only; omega, by simp only; omega⟩, ⟨by simp only; omega, by simp only; omega⟩, by simp only; omega⟩
  simp only at f2 f3
  obtain ⟨l, rfl⟩ := f3.som (by omega)
  have hl : l.length = N := f3.len
  rw [f1]
  refine ⟨l, _, rfl, f2.mono (by omega), ⟨fun p hp => (f3.pts p hp).1, f3.inc, by omega, by omega⟩, by omega, fun p hp => ?_⟩
  have := f3.pts p hp
  omega

theorem last_ok {l : List Point} (h : StV l) : ∃ p, t_spec_l02Last ⟨some l⟩ = some p.t ∧ l[l.length - 1]? = some p ∧ p ∈ l ∧ ∀ q ∈ l, q.t ≤ p.t := by
  have h1 := h.n1
  have h2 := h.n2
  obtain ⟨p, hp⟩ : ∃ p, l[l.length - 1]? = some p := ⟨l[l.length - 1], List.getElem?_eq_getElem (by omega)⟩
  have w : wr (((l.length : Nat) : Int) - 1) = ((l.length - 1 : Nat) : Int) := by rw [wr_id (by omega) (by omega)]; omega
  refine ⟨p, ?_, hp, List.mem_of_getElem? hp, fun q hq => ?_⟩
  · unfold t_spec_l02Last
    simp only [Option.getD_some, w, getI_nat hp, obind_sm]
  · obtain ⟨k, hk⟩ := List.mem_iff_getElem?.1 hq
    have key : ∀ (d k : Nat) (a b : Point), l[k]? = some a → l[k + d]? = some b → a.t ≤ b.t := by
      intro d
      induction d with
      | zero => intro k a b h1 h2; rw [Nat.add_zero, h1] at h2; cases h2; exact Int.le_refl _
      | succ d ih =>
        intro k a b h1 h2
        have hlt := get_lt h2
        obtain ⟨m, hm⟩ : ∃ m, l[k + d]? = some m := ⟨l[k + d], List.getElem?_eq_getElem (by omega)⟩
        have := ih k a m h1 hm
        have := h.inc (k + d) m b hm (by rw [Nat.add_assoc]; exact h2)
        omega
    have hk2 := get_lt hk
    exact key (l.length - 1 - k) k q p hk (by rw [← hp]; congr 1; omega)

/-- Ink that is one. -/
structure InkV (L : List Stroke) : Prop where
  st : ∀ s ∈ L, ∃ l, s = ⟨some l⟩ ∧ StV l
  inc : ∀ (k : Nat) l l', L[k]? = some ⟨some l⟩ → L[k + 1]? = some ⟨some l'⟩ → ∀ p ∈ l, ∀ q ∈ l', p.t < q.t
  n : L.length ≤ 16

/-- What the drawing of ink keeps. -/
structure InkI (s : Sl Stroke) (i : Nat) (t : Int) : Prop where
  len : (s.getD []).length = i
  som : 0 < i → ∃ l, s = .some l
  st : ∀ x ∈ s.getD [], ∃ l, x = ⟨some l⟩ ∧ StV l ∧ ∀ p ∈ l, p.t < t
  inc : ∀ (k : Nat) l l', (s.getD [])[k]? = some ⟨some l⟩ → (s.getD [])[k + 1]? = some ⟨some l'⟩ → ∀ p ∈ l, ∀ q ∈ l', p.t < q.t

theorem InkI.step {s : Sl Stroke} {i : Nat} {t t' : Int} {l : List Point} (h : InkI s i t) (hl : StV l) (h0 : ∀ p ∈ l, t ≤ p.t ∧ p.t < t') (ht : t ≤ t') : InkI (some (s.getD [] ++ [⟨some l⟩])) (i + 1) t' := by
  refine ⟨by simp [h.len], fun _ => ⟨_, rfl⟩, fun x hx => ?_, ?_⟩
  · rcases List.mem_append.1 hx with hx | hx
    · obtain ⟨l', e, h1, h2⟩ := h.st x hx
      exact ⟨l', e, h1, fun p hp => Int.lt_of_lt_of_le (h2 p hp) ht⟩
    · simp only [List.mem_singleton] at hx
      exact ⟨l, hx, hl, fun p hp => (h0 p hp).2⟩
  · intro k a b h1 h2
    simp only [Option.getD_some] at h1 h2
    have hk := get_lt h2
    simp only [List.length_append, List.length_cons, List.length_nil] at hk
    rw [List.getElem?_append_left (by omega)] at h1
    by_cases c : k + 1 < (s.getD []).length
    · rw [List.getElem?_append_left c] at h2
      exact h.inc k a b h1 h2
    · have e : k + 1 = (s.getD []).length := by omega
      rw [e, List.getElem?_append_right (Nat.le_refl _), Nat.sub_self] at h2
      simp only [List.getElem?_cons_zero, Option.some.injEq, Stroke.mk.injEq] at h2
      subst h2
      intro p hp q hq
      obtain ⟨l', e', _, h3⟩ := h.st _ (List.mem_of_getElem? h1)
      simp only [Stroke.mk.injEq, Option.some.injEq] at e'
      subst e'
      exact Int.lt_of_lt_of_le (h3 p hp) (h0 q hq).1

theorem dr_ink {s : l00Src} {k : Int} (h : SK s k) (hk : k ≤ 100000000) {most : Int} (h1 : 0 ≤ most) (h2 : most ≤ 10) : ∃ L s', t_spec_l02Draw s most = some (⟨L⟩, s') ∧ SK s' (k + 20000) ∧ InkV (L.getD []) ∧ (L.getD []).length ≤ most := by
  obtain ⟨r1, s1, e1, k1, p1, q1, _⟩ := dr_pick h (by omega) (n := 100) (by omega)
  obtain ⟨r2, s2, e2, k2, p2, q2, _⟩ := dr_pick k1 (by omega) (n := 200) (by omega)
  obtain ⟨r3, s3, e3, k3, p3, q3, _⟩ := dr_pick k2 (by omega) (n := most + 1) (by omega)
  have q1' := q1 (by omega)
  have q2' := q2 (by omega)
  have q3' := q3 (by omega)
  have w0 : wr (most + 1) = most + 1 := wr_id (by omega) (by omega)
  have w1 : wr (100 + r2) = 100 + r2 := wr_id (by omega) (by omega)
  obtain ⟨N, hN⟩ := Int.eq_ofNat_of_zero_le (a := r3) (by omega)
  unfold t_spec_l02Draw
  simp only [e1, e2, w0, e3, obind_sm, w1]
  obtain ⟨⟨c1, c2, c3, c4⟩, f1, f2, f3⟩ := loopT_ex (step := s0_spec_l02Draw) (fun i (t : (Sl UInt8) × Int × Int × (Sl Stroke) × Int × Int × Int) => SK ⟨t.1, t.2.1, t.2.2.1⟩ (k + 6 + 1100 * i) ∧ InkI t.2.2.2.1 i t.2.2.2.2.1 ∧ (0 ≤ t.2.2.2.2.1 ∧ t.2.2.2.2.1 ≤ 100 + 600 * i) ∧
      (0 ≤ t.2.2.2.2.2.1 ∧ t.2.2.2.2.2.1 ≤ 300 + 200 * i) ∧ t.2.2.2.2.2.2 = N - (i : Int))
    N (fun r => SK ⟨r.1, r.2.1, r.2.2.1⟩ (k + 6 + 1100 * N) ∧ ∃ t, InkI r.2.2.2 N t)
    (fun i ⟨v1, v2, v3, v4, v5, v6, v7⟩ hi ⟨g1, g2, g3, g4, g5⟩ => by
      simp only at g1 g2 g3 g4 g5
      obtain ⟨r4, s4, e4, k4, p4, q4, _⟩ := dr_pick g1 (by omega) (n := 200) (by omega)
      have q4' := q4 (by omega)
      have a1 : wr (300 + r4) = 300 + r4 := wr_id (by omega) (by omega)
      obtain ⟨l, s5, e5, k5, sv, _, st⟩ := dr_stroke k4 (by omega) (time := v5) (x := v6) (y := 300 + r4) (by omega) (by omega) (by omega) (by omega)
      obtain ⟨p, e6, _, pm, pl⟩ := last_ok sv
      obtain ⟨r7, s7, e7, k7, p7, q7, _⟩ := dr_pick k5 (by omega) (n := 200) (by omega)
      obtain ⟨r8, s8, e8, k8, p8, q8, _⟩ := dr_pick k7 (by omega) (n := 200) (by omega)
      have q7' := q7 (by omega)
      have q8' := q8 (by omega)
      have pt := st p pm
      have a0 := appO_one v4 (⟨some l⟩ : Stroke) (by rw [g2.len]; omega)
      have a0' : appS v4 [(⟨some l⟩ : Stroke)] = some (v4.getD [] ++ [⟨some l⟩]) := appS_cons _ _ _
      have a2 : wr (p.t + 1) = p.t + 1 := wr_id (by omega) (by omega)
      have a3 : wr (p.t + 1 + r7) = p.t + 1 + r7 := wr_id (by omega) (by omega)
      have a4 : wr (v6 + r8) = v6 + r8 := wr_id (by omega) (by omega)
      have a5 : wr (v7 - 1) = v7 - 1 := wr_id (by omega) (by omega)
      have c : 0 < v7 := by omega
      have e : s0_spec_l02Draw (v1, v2, v3, v4, v5, v6, v7) = some (.inl (s8.code, s8.pos, s8.seed, some (v4.getD [] ++ [⟨some l⟩]), p.t + 1 + r7, v6 + r8, v7 - 1)) := by
        unfold s0_spec_l02Draw
        simp only [c, decide_true, cond_true, e4, a1, e5, e6, e7, e8, obind_sm, a0, a0', a2, a3, a4, a5]
      have nx := g2.step (t' := p.t + 1 + r7) sv (fun q hq => ⟨(st q hq).1, by have := pl q hq; omega⟩) (by omega)
      exact .inl ⟨_, e, k8.mono (by omega), nx, ⟨by simp only; omega, by simp only; omega⟩, ⟨by simp only; omega, by simp only; omega⟩, by simp only; omega⟩)
    (fun ⟨v1, v2, v3, v4, v5, v6, v7⟩ ⟨g1, g2, g3, g4, g5⟩ => by
      simp only at g1 g2 g5
      have c : ¬ 0 < v7 := by omega
      have e : s0_spec_l02Draw (v1, v2, v3, v4, v5, v6, v7) = some (.inr (v1, v2, v3, v4)) := by
        unfold s0_spec_l02Draw
        simp only [c, decide_false, cond_false]
      exact ⟨_, e, g1, v5, g2⟩)
    (s := (s3.code, s3.pos, s3.seed, none, r1, 100 + r2, r3)) ⟨k3.mono (by omega), ⟨rfl, fun h => by omega, fun p hp => (by cases hp), fun k p q h1 _ => (by simp at h1)⟩, ⟨by simp only; omega, by simp only; omega⟩, ⟨by simp only; omega, by simp only; omega⟩, by simp only; omega⟩
  simp only at f2 f3
  obtain ⟨t, f3⟩ := f3
  rw [f1]
  refine ⟨c4, _, rfl, f2.mono (by omega), ⟨fun x hx => ?_, f3.inc, by rw [f3.len]; omega⟩, by rw [f3.len]; omega⟩
  obtain ⟨l, e, h1, _⟩ := f3.st x hx
  exact ⟨l, e, h1⟩

theorem dr_long {n : Int} (h0 : 0 ≤ n) (h1 : n ≤ 100) : ∃ s, t_spec_l02Long n = some s ∧ StB s := by
  obtain ⟨N, rfl⟩ := Int.eq_ofNat_of_zero_le h0
  obtain ⟨r, f1, f2, f3⟩ := loopT_ex (step := s0_spec_l02Long N) (fun i (t : (Sl Point) × Int) => (t.1.getD []).length = i ∧ (∀ p ∈ t.1.getD [], PtB p) ∧ t.2 = (i : Int)) N (fun r => (r.getD []).length = N ∧ ∀ p ∈ r.getD [], PtB p)
    (fun i ⟨v1, v2⟩ hi ⟨g1, g2, g3⟩ => by
      simp only at g1 g2 g3
      subst g3
      have c : (i : Int) < (N : Int) := by omega
      have dv : 0 ≤ Int.tdiv (i : Int) 2 ∧ Int.tdiv (i : Int) 2 ≤ i := by rw [Int.tdiv_eq_ediv_of_nonneg (by omega)]; omega
      have w1 : wr (10 + (i : Int)) = 10 + i := wr_id (by omega) (by omega)
      have w2 : wr (Int.tdiv (i : Int) 2) = Int.tdiv (i : Int) 2 := wr_id (by omega) (by omega)
      have w3 : wr (50 - Int.tdiv (i : Int) 2) = 50 - Int.tdiv (i : Int) 2 := wr_id (by omega) (by omega)
      have w4 : wr (3 * (i : Int)) = 3 * i := wr_id (by omega) (by omega)
      have a0 := appO_one v1 (⟨10 + (i : Int), 50 - Int.tdiv (i : Int) 2, 3 * (i : Int)⟩ : Point) (by omega)
      have a0' : appS v1 [(⟨10 + (i : Int), 50 - Int.tdiv (i : Int) 2, 3 * (i : Int)⟩ : Point)] = some (v1.getD [] ++ [⟨10 + (i : Int), 50 - Int.tdiv (i : Int) 2, 3 * (i : Int)⟩]) := appS_cons _ _ _
      refine .inl ⟨(some (v1.getD [] ++ [⟨10 + (i : Int), 50 - Int.tdiv (i : Int) 2, 3 * (i : Int)⟩]), ((i + 1 : Nat) : Int)), ?_, by simp [g1], fun p hp => ?_, rfl⟩
      · unfold s0_spec_l02Long
        simp only [c, decide_true, cond_true, w1, w2, w3, w4, a0, a0', obind_sm, wr_succ hi (by omega)]
      · rcases List.mem_append.1 hp with hp | hp
        · exact g2 p hp
        · simp only [List.mem_singleton] at hp
          subst hp
          exact ⟨by simp only; omega, by simp only; omega, by simp only; omega, by simp only; omega, by simp only; omega, by simp only; omega⟩)
    (fun ⟨v1, v2⟩ ⟨g1, g2, g3⟩ => by
      simp only at g1 g2 g3
      subst g3
      refine ⟨v1, ?_, g1, g2⟩
      unfold s0_spec_l02Long
      simp only [Int.lt_irrefl, decide_false, cond_false])
    (s := (none, 0)) ⟨rfl, fun p hp => (by cases hp), rfl⟩
  refine ⟨⟨r⟩, ?_, by simp only; omega, f3⟩
  unfold t_spec_l02Long
  simp only [f1, obind_sm]

theorem InkV.b {L : List Stroke} (h : InkV L) : ∀ x ∈ L, StB x := fun x hx => by
  obtain ⟨l, rfl, hl⟩ := h.st x hx
  exact hl.b

theorem set_st {L : List Stroke} {k : Int} {l : List Point} {q : Point} (h : ∀ x ∈ L, StB x) (hl : StB ⟨some l⟩) (hq : PtB q) : ∀ x ∈ (setS (some L) k (⟨setS (some l) 0 q⟩ : Stroke)).getD [], StB x := by
  intro x hx
  simp only [setS, Option.map_some, Option.getD_some] at hx
  rcases List.mem_or_eq_of_mem_set hx with hx | rfl
  · exact h x hx
  · refine ⟨by simpa using hl.n, fun p hp => ?_⟩
    simp only [Option.getD_some] at hp
    rcases List.mem_or_eq_of_mem_set hp with hp | rfl
    · exact hl.pts p (by simpa using hp)
    · exact hq

theorem dr_bent {s : l00Src} {k : Int} (h : SK s k) (hk : k ≤ 10000000) : ∃ L s', t_spec_l02Bent s = some (⟨L⟩, s') ∧ SK s' (k + 30000) ∧ (L.getD []).length ≤ 100 ∧ ∀ x ∈ L.getD [], StB x := by
  obtain ⟨L, s1, e1, k1, iv, il⟩ := dr_ink h (by omega) (most := 5) (by omega) (by omega)
  obtain ⟨r2, s2, e2, k2, p2, q2, _⟩ := dr_pick k1 (by omega) (n := 20) (by omega)
  have q2' := q2 (by omega)
  have ib := iv.b
  have first : 0 < (((L.getD []).length : Nat) : Int) → ∀ r : Int, 0 ≤ r → r < (((L.getD []).length : Nat) : Int) → ∃ L' l p, L = some L' ∧ getI (L.getD []) r = some ⟨some l⟩ ∧ getI l 0 = some p ∧ StV l := fun h0 r hr0 hr1 => by
    obtain ⟨x, hx, hx2⟩ := getI_in hr0 hr1
    obtain ⟨l, rfl, hl⟩ := iv.st x (List.mem_of_getElem? hx2)
    obtain ⟨p, hp, _⟩ := getI_in (l := l) (i := 0) (by omega) (by have := hl.n1; omega)
    cases L with
    | none => simp at h0
    | some L' => exact ⟨L', l, p, rfl, hx, hp, hl⟩
  unfold t_spec_l02Bent
  simp only [e1, e2, obind_sm]
  by_cases c0 : r2 = 0
  · have d0 : decide (r2 = 0) = true := decide_eq_true c0
    have a0 := appO_one L (⟨none⟩ : Stroke) (by omega)
    have a0' : appS L [(⟨none⟩ : Stroke)] = some (L.getD [] ++ [⟨none⟩]) := appS_cons _ _ _
    simp only [d0, cond_true, a0, a0', obind_sm]
    refine ⟨_, _, rfl, k2.mono (by omega), by simp; omega, fun x hx => ?_⟩
    rcases List.mem_append.1 hx with hx | hx
    · exact ib x hx
    · simp only [List.mem_singleton] at hx
      subst hx
      exact ⟨by simp, fun p hp => by cases hp⟩
  have d0 : decide (r2 = 0) = false := decide_eq_false c0
  by_cases c1 : r2 = 1
  · have d1 : decide (r2 = 1) = true := decide_eq_true c1
    by_cases n0 : 0 < (((L.getD []).length : Nat) : Int)
    · obtain ⟨r3, s3, e3, k3, p3, q3, _⟩ := dr_pick k2 (by omega) (n := (((L.getD []).length : Nat) : Int)) (by omega)
      have q3' := q3 (by omega)
      obtain ⟨L', l, p, rfl, g1, g2, hl⟩ := first n0 r3 p3 q3'
      simp only [Option.getD_some] at n0 e3 g1 ib
      obtain ⟨r4, s4, e4, k4, m4⟩ := dr_among k3 (by omega) (l := [-1, 4095, 4096]) (by simp) (by simp)
      simp only [d0, d1, decide_true, decide_false, cond_true, cond_false, n0, e3, obind_sm, g1, Option.getD_some, g2, e4]
      have pb := (hl.pts p (List.mem_of_getElem? (getI_iff.1 g2).2)).b
      refine ⟨_, _, rfl, k4.mono (by omega), by simp only [setS, Option.map_some, Option.getD_some, List.length_set] at il ⊢; omega, set_st ib hl.b ⟨?_, ?_, pb.y0, pb.y1, pb.t0, pb.t1⟩⟩
      all_goals
        simp only [List.mem_cons, List.not_mem_nil, or_false] at m4
        simp only
        omega
    · simp only [d0, d1, decide_true, decide_false, cond_true, cond_false, n0]
      exact ⟨_, _, rfl, k2.mono (by omega), by omega, ib⟩
  have d1 : decide (r2 = 1) = false := decide_eq_false c1
  by_cases c2 : r2 = 2
  · have d2 : decide (r2 = 2) = true := decide_eq_true c2
    by_cases n0 : 0 < (((L.getD []).length : Nat) : Int)
    · obtain ⟨r3, s3, e3, k3, p3, q3, _⟩ := dr_pick k2 (by omega) (n := (((L.getD []).length : Nat) : Int)) (by omega)
      have q3' := q3 (by omega)
      obtain ⟨L', l, p, rfl, g1, g2, hl⟩ := first n0 r3 p3 q3'
      simp only [Option.getD_some] at n0 e3 g1 ib
      obtain ⟨r4, s4, e4, k4, m4⟩ := dr_among k3 (by omega) (l := [-1, 0, 3600000, 3600001]) (by simp) (by simp)
      simp only [d0, d1, d2, decide_true, decide_false, cond_true, cond_false, n0, e3, obind_sm, g1, Option.getD_some, g2, e4]
      have pb := (hl.pts p (List.mem_of_getElem? (getI_iff.1 g2).2)).b
      refine ⟨_, _, rfl, k4.mono (by omega), by simp only [setS, Option.map_some, Option.getD_some, List.length_set] at il ⊢; omega, set_st ib hl.b ⟨pb.x0, pb.x1, pb.y0, pb.y1, ?_, ?_⟩⟩
      all_goals
        simp only [List.mem_cons, List.not_mem_nil, or_false] at m4
        simp only
        omega
    · simp only [d0, d1, d2, decide_true, decide_false, cond_true, cond_false, n0]
      exact ⟨_, _, rfl, k2.mono (by omega), by omega, ib⟩
  have d2 : decide (r2 = 2) = false := decide_eq_false c2
  by_cases c3 : r2 = 3
  · have d3 : decide (r2 = 3) = true := decide_eq_true c3
    obtain ⟨r3, s3, e3, k3, p3, q3, _⟩ := dr_pick k2 (by omega) (n := 2) (by omega)
    have q3' := q3 (by omega)
    have w : wr (60 + r3) = 60 + r3 := wr_id (by omega) (by omega)
    obtain ⟨x, e4, hx⟩ := dr_long (n := 60 + r3) (by omega) (by omega)
    simp only [d0, d1, d2, d3, decide_true, decide_false, cond_true, cond_false, e3, w, e4, obind_sm]
    refine ⟨_, _, rfl, k3.mono (by omega), by simp, fun y hy => ?_⟩
    simp only [Option.getD_some, List.mem_singleton] at hy
    subst hy
    exact hx
  have d3 : decide (r2 = 3) = false := decide_eq_false c3
  by_cases c4 : r2 = 4
  · have d4 : decide (r2 = 4) = true := decide_eq_true c4
    obtain ⟨r3, s3, e3, k3, p3, q3, _⟩ := dr_pick k2 (by omega) (n := 2) (by omega)
    have q3' := q3 (by omega)
    have w : wr (16 + r3) = 16 + r3 := wr_id (by omega) (by omega)
    obtain ⟨N, hN⟩ := Int.eq_ofNat_of_zero_le (a := 16 + r3) (by omega)
    obtain ⟨r, f1, f2, f3⟩ := loopT_ex (step := s0_spec_l02Bent (r3, s3)) (fun i (t : (Sl Stroke) × Int) => (t.1.getD []).length = i ∧ (∀ p ∈ t.1.getD [], StB p) ∧ t.2 = (i : Int)) N (fun r => (r.getD []).length = N ∧ ∀ p ∈ r.getD [], StB p)
      (fun i ⟨v1, v2⟩ hi ⟨g1, g2, g3⟩ => by
        simp only at g1 g2 g3
        subst g3
        have c : (i : Int) < 16 + r3 := by omega
        have a0 := appO_one v1 (⟨some [⟨(i : Int), 5, (i : Int)⟩]⟩ : Stroke) (by omega)
        have a0' : appS v1 [(⟨some [⟨(i : Int), 5, (i : Int)⟩]⟩ : Stroke)] = some (v1.getD [] ++ [⟨some [⟨(i : Int), 5, (i : Int)⟩]⟩]) := appS_cons _ _ _
        refine .inl ⟨(some (v1.getD [] ++ [⟨some [⟨(i : Int), 5, (i : Int)⟩]⟩]), ((i + 1 : Nat) : Int)), ?_, by simp [g1], fun p hp => ?_, rfl⟩
        · unfold s0_spec_l02Bent
          simp only [w, c, decide_true, cond_true, a0, a0', obind_sm, wr_succ hi (by omega)]
        · rcases List.mem_append.1 hp with hp | hp
          · exact g2 p hp
          · simp only [List.mem_singleton] at hp
            subst hp
            refine ⟨by simp, fun q hq => ?_⟩
            simp only [Option.getD_some, List.mem_singleton] at hq
            subst hq
            exact ⟨by simp only; omega, by simp only; omega, by simp only; omega, by simp only; omega, by simp only; omega, by simp only; omega⟩)
      (fun ⟨v1, v2⟩ ⟨g1, g2, g3⟩ => by
        simp only at g1 g2 g3
        subst g3
        have c : ¬ (N : Int) < 16 + r3 := by omega
        refine ⟨v1, ?_, g1, g2⟩
        unfold s0_spec_l02Bent
        simp only [w, c, decide_false, cond_false])
      (s := (none, 0)) ⟨rfl, fun p hp => (by cases hp), rfl⟩
    simp only [d0, d1, d2, d3, d4, decide_true, decide_false, cond_true, cond_false, e3, f1, obind_sm]
    exact ⟨_, _, rfl, k3.mono (by omega), by omega, f3⟩
  · have d4 : decide (r2 = 4) = false := decide_eq_false c4
    simp only [d0, d1, d2, d3, d4, cond_false]
    exact ⟨_, _, rfl, k2.mono (by omega), by omega, ib⟩

theorem dr_l05 {s : l00Src} {k : Int} (h : SK s k) (hk : k ≤ 1000000) : ∃ st s', t_spec_l05Stroke s = some (st, s') ∧ SK s' (k + 40000) ∧ StB st := by
  obtain ⟨b1, s1, e1, k1⟩ := dr_one h (by omega) (n := 12) (by omega)
  unfold t_spec_l05Stroke
  simp only [e1, obind_sm]
  cases b1 with
  | true =>
    obtain ⟨L, s2, e2, k2, ll, lb⟩ := dr_bent k1 (by omega)
    simp only [cond_true, e2, obind_sm]
    by_cases n0 : 0 < (((L.getD []).length : Nat) : Int)
    · obtain ⟨x, g1, g2⟩ := getI_in (l := L.getD []) (i := 0) (by omega) (by omega)
      simp only [n0, decide_true, cond_true, g1, obind_sm]
      exact ⟨_, _, rfl, k2.mono (by omega), lb _ (List.mem_of_getElem? g2)⟩
    · simp only [n0, decide_false, cond_false]
      exact ⟨_, _, rfl, k2.mono (by omega), by simp, fun p hp => by cases hp⟩
  | false =>
    obtain ⟨b2, s2, e2, k2⟩ := dr_one k1 (by omega) (n := 2) (by omega)
    simp only [cond_false, e2, obind_sm]
    cases b2 with
    | true =>
      obtain ⟨r3, s3, e3, k3, p3, q3, _⟩ := dr_pick k2 (by omega) (n := 60) (by omega)
      obtain ⟨r4, s4, e4, k4, p4, q4, _⟩ := dr_pick k3 (by omega) (n := 60) (by omega)
      have q3' := q3 (by omega)
      have q4' := q4 (by omega)
      have w1 : wr (300 + r3) = 300 + r3 := wr_id (by omega) (by omega)
      have w2 : wr (300 + r4) = 300 + r4 := wr_id (by omega) (by omega)
      obtain ⟨l, s5, e5, k5, sv, _, _⟩ := dr_stroke k4 (by omega) (time := 5) (x := 300 + r3) (y := 300 + r4) (by omega) (by omega) (by omega) (by omega)
      simp only [cond_true, e3, e4, w1, w2, e5, obind_sm]
      exact ⟨_, _, rfl, k5.mono (by omega), sv.b⟩
    | false =>
      obtain ⟨r3, s3, e3, k3, p3, q3, _⟩ := dr_pick k2 (by omega) (n := 7) (by omega)
      have q3' := q3 (by omega)
      have w1 : wr (1 + r3) = 1 + r3 := wr_id (by omega) (by omega)
      obtain ⟨N, hN⟩ := Int.eq_ofNat_of_zero_le (a := 1 + r3) (by omega)
      obtain ⟨⟨c1, c2, c3, c4⟩, f1, f2, f3, f4⟩ := loopT_ex (step := s0_spec_l05Stroke) (fun i (t : (Sl UInt8) × Int × Int × (Sl Point) × Int) => SK ⟨t.1, t.2.1, t.2.2.1⟩ (k + 6 + 4 * i) ∧ (t.2.2.2.1.getD []).length = i ∧ (∀ p ∈ t.2.2.2.1.getD [], PtB p) ∧ t.2.2.2.2 = N - (i : Int))
        N (fun r => SK ⟨r.1, r.2.1, r.2.2.1⟩ (k + 6 + 4 * N) ∧ (r.2.2.2.getD []).length = N ∧ ∀ p ∈ r.2.2.2.getD [], PtB p)
        (fun i ⟨v1, v2, v3, v4, v5⟩ hi ⟨g1, g2, g3, g4⟩ => by
          simp only at g1 g2 g3 g4
          obtain ⟨r4, s4, e4, k4, p4, q4, _⟩ := dr_pick g1 (by omega) (n := 9) (by omega)
          obtain ⟨r5, s5, e5, k5, p5, q5, _⟩ := dr_pick k4 (by omega) (n := 9) (by omega)
          have q4' := q4 (by omega)
          have q5' := q5 (by omega)
          have a0 := appO_one v4 (⟨r4, r5, (((v4.getD []).length : Nat) : Int)⟩ : Point) (by omega)
          have a0' : appS v4 [(⟨r4, r5, (((v4.getD []).length : Nat) : Int)⟩ : Point)] = some (v4.getD [] ++ [⟨r4, r5, (((v4.getD []).length : Nat) : Int)⟩]) := appS_cons _ _ _
          have a5 : wr (v5 - 1) = v5 - 1 := wr_id (by omega) (by omega)
          have c : 0 < v5 := by omega
          have e : s0_spec_l05Stroke (v1, v2, v3, v4, v5) = some (.inl (s5.code, s5.pos, s5.seed, some (v4.getD [] ++ [⟨r4, r5, (((v4.getD []).length : Nat) : Int)⟩]), v5 - 1)) := by
            unfold s0_spec_l05Stroke
            simp only [c, decide_true, cond_true, e4, e5, obind_sm, a0, a0', a5]
          refine .inl ⟨_, e, k5.mono (by omega), by simp [g2], fun p hp => ?_, by simp only; omega⟩
          rcases List.mem_append.1 hp with hp | hp
          · exact g3 p hp
          · simp only [List.mem_singleton] at hp
            subst hp
            exact ⟨by simp only; omega, by simp only; omega, by simp only; omega, by simp only; omega, by simp only; omega, by simp only; omega⟩)
        (fun ⟨v1, v2, v3, v4, v5⟩ ⟨g1, g2, g3, g4⟩ => by
          simp only at g1 g2 g3 g4
          have c : ¬ 0 < v5 := by omega
          have e : s0_spec_l05Stroke (v1, v2, v3, v4, v5) = some (.inr (v1, v2, v3, v4)) := by
            unfold s0_spec_l05Stroke
            simp only [c, decide_false, cond_false]
          exact ⟨_, e, g1, g2, g3⟩)
        (s := (s3.code, s3.pos, s3.seed, none, 1 + r3)) ⟨k3.mono (by omega), rfl, fun p hp => (by cases hp), by simp only; omega⟩
      simp only at f2 f3 f4
      simp only [cond_false, e3, w1, obind_sm]
      rw [f1]
      exact ⟨_, _, rfl, f2.mono (by omega), by simp only; omega, f4⟩

def vP (p : Point) : Bool := within p.x 0 4095 && within p.y 0 4095 && within p.t 0 3600000

def fV (l : List Point) (k : Nat) (a : Point) : Option Bool := bif (!vP a || (decide (0 < k) && decide (a.t ≤ (l.getD (k - 1) ⟨0, 0, 0⟩).t))) then some false else none

/-- The points are those of a stroke that is one. -/
def vS (l : List Point) : Bool := match firstL (fV l) l 0 with
  | none => decide (1 ≤ l.length) && decide (l.length ≤ 60)
  | some r => r

theorem validPoint_vP (p : Point) : t_impl_validPoint p = some (vP p) := by
  unfold t_impl_validPoint vP
  simp only [obind_sm]
  cases within p.x 0 4095 <;> cases within p.y 0 4095 <;> cases within p.t 0 3600000 <;> rfl

theorem l02Point_vP (p : Point) : t_spec_l02Point p = some (vP p) := by
  unfold t_spec_l02Point vP
  simp only [obind_sm]
  cases within p.x 0 4095 <;> cases within p.y 0 4095 <;> cases within p.t 0 3600000 <;> rfl

theorem vP_iff {p : Point} : vP p = true ↔ PtV p := by
  unfold vP within
  simp only [Bool.and_eq_true, decide_eq_true_eq]
  constructor
  · rintro ⟨⟨⟨h1, h2⟩, h3, h4⟩, h5, h6⟩
    exact ⟨h1, h2, h3, h4, h5, h6⟩
  · rintro ⟨h1, h2, h3, h4, h5, h6⟩
    exact ⟨⟨⟨h1, h2⟩, h3, h4⟩, h5, h6⟩

theorem prev_get {A : Type} {l : List A} {k : Nat} {d : A} (hk : k < l.length) (h0 : 0 < k) (hl : l.length ≤ 4294967296) : getI l (wr ((k : Int) - 1)) = some (l.getD (k - 1) d) := by
  have w : wr ((k : Int) - 1) = ((k - 1 : Nat) : Int) := by rw [wr_id (by omega) (by omega)]; omega
  rw [w]
  apply getI_nat
  rw [List.getD_eq_getElem?_getD, List.getElem?_eq_getElem (by omega)]
  rfl

theorem validStroke_vS (s : Stroke) (hl : (s.points.getD []).length ≤ 4294967296) : t_impl_ValidStroke s = some (vS (s.points.getD [])) := by
  obtain ⟨l, hL⟩ : ∃ l, s.points.getD [] = l := ⟨_, rfl⟩
  rw [hL] at hl ⊢
  have lp := loopT_first (step := s0_impl_ValidStroke s) l (fV l) (.inl ()) .inr
    (fun k a ha => by
      have hk := get_lt ha
      have c : (k : Int) < (l.length : Nat) := by omega
      have ws := wr_succ hk hl
      unfold s0_impl_ValidStroke fV
      simp only [hL, c, decide_true, cond_true, getI_nat ha, obind_sm, validPoint_vP, ws]
      by_cases k0 : k = 0
      · have D1 : decide ((0 : Int) < (k : Int)) = false := decide_eq_false (by omega)
        have D2 : decide (0 < k) = false := decide_eq_false (by omega)
        rw [D1, D2]
        cases vP a <;> rfl
      · have D1 : decide ((0 : Int) < (k : Int)) = true := decide_eq_true (by omega)
        have D2 : decide (0 < k) = true := decide_eq_true (by omega)
        rw [D1, D2, prev_get (d := ⟨0, 0, 0⟩) hk (by omega) hl]
        simp only [obind_sm]
        cases vP a <;> cases decide (a.t ≤ (l.getD (k - 1) ⟨0, 0, 0⟩).t) <;> rfl)
    (by
      unfold s0_impl_ValidStroke
      simp only [hL, Int.lt_irrefl, decide_false, cond_false])
  have d1 : decide ((1 : Int) ≤ ((l.length : Nat) : Int)) = decide (1 ≤ l.length) := decide_eq_decide.2 (by omega)
  have d2 : decide (((l.length : Nat) : Int) ≤ 60) = decide (l.length ≤ 60) := decide_eq_decide.2 (by omega)
  unfold t_impl_ValidStroke vS
  rw [lp]
  cases firstL (fV l) l 0 with
  | none =>
    simp only [obind_sm, hL, d1, d2]
    cases decide (1 ≤ l.length) <;> cases decide (l.length ≤ 60) <;> rfl
  | some r => rfl

theorem l02Stroke_vS (s : Stroke) (hl : (s.points.getD []).length ≤ 4294967296) : t_spec_l02Stroke s = some (vS (s.points.getD [])) := by
  obtain ⟨l, hL⟩ : ∃ l, s.points.getD [] = l := ⟨_, rfl⟩
  rw [hL] at hl ⊢
  have lp := loopT_first (step := s0_spec_l02Stroke s) l (fV l) (.inl ()) .inr
    (fun k a ha => by
      have hk := get_lt ha
      have c : (k : Int) < (l.length : Nat) := by omega
      have ws := wr_succ hk hl
      unfold s0_spec_l02Stroke fV
      simp only [hL, c, decide_true, cond_true, getI_nat ha, obind_sm, l02Point_vP, ws]
      by_cases k0 : k = 0
      · have D1 : decide ((0 : Int) < (k : Int)) = false := decide_eq_false (by omega)
        have D2 : decide (0 < k) = false := decide_eq_false (by omega)
        rw [D1, D2]
        cases vP a <;> rfl
      · have D1 : decide ((0 : Int) < (k : Int)) = true := decide_eq_true (by omega)
        have D2 : decide (0 < k) = true := decide_eq_true (by omega)
        rw [D1, D2, prev_get (d := ⟨0, 0, 0⟩) hk (by omega) hl]
        simp only [obind_sm]
        cases vP a <;> cases decide (a.t ≤ (l.getD (k - 1) ⟨0, 0, 0⟩).t) <;> rfl)
    (by
      unfold s0_spec_l02Stroke
      simp only [hL, Int.lt_irrefl, decide_false, cond_false])
  have d1 : within ((l.length : Nat) : Int) 1 60 = (decide (1 ≤ l.length) && decide (l.length ≤ 60)) := by
    unfold within
    congr 1 <;> exact decide_eq_decide.2 (by omega)
  unfold t_spec_l02Stroke vS
  rw [lp]
  cases firstL (fV l) l 0 with
  | none =>
    simp only [obind_sm, hL, d1]
  | some r => rfl

theorem firstL_no {A R : Type} {f : Nat → A → Option R} : ∀ {l : List A} {k : Nat}, firstL f l k = none → ∀ i a, l[i]? = some a → f (k + i) a = none
  | [], _, _, i, a, ha => by simp at ha
  | b :: l, k, h, i, a, ha => by
    unfold firstL at h
    cases e : f k b with
    | some r => rw [e] at h; cases h
    | none =>
      rw [e] at h
      cases i with
      | zero =>
        simp only [List.getElem?_cons_zero, Option.some.injEq] at ha
        subst ha
        exact e
      | succ i =>
        have := firstL_no h i a (by simpa using ha)
        rw [← this]
        congr 1
        omega

theorem firstL_so {A R : Type} {f : Nat → A → Option R} : ∀ {l : List A} {k : Nat} {r : R}, firstL f l k = some r → ∃ i a, f i a = some r
  | [], _, _, h => by cases h
  | b :: l, k, r, h => by
    unfold firstL at h
    cases e : f k b with
    | some r' => rw [e] at h; cases h; exact ⟨k, b, e⟩
    | none => rw [e] at h; exact firstL_so h

theorem vS_iff {l : List Point} : vS l = true ↔ StV l := by
  unfold vS
  constructor
  · intro h
    cases e : firstL (fV l) l 0 with
    | some r =>
      rw [e] at h
      simp only at h
      subst h
      obtain ⟨i, a, hf⟩ := firstL_so e
      unfold fV at hf
      cases h2 : (!vP a || (decide (0 < i) && decide (a.t ≤ (l.getD (i - 1) ⟨0, 0, 0⟩).t))) <;> rw [h2] at hf <;> cases hf
    | none =>
      rw [e] at h
      simp only [Bool.and_eq_true, decide_eq_true_eq] at h
      have no := firstL_no e
      have no' : ∀ i a, l[i]? = some a → vP a = true ∧ (0 < i → (l.getD (i - 1) ⟨0, 0, 0⟩).t < a.t) := fun i a ha => by
        have h1 := no i a ha
        rw [Nat.zero_add] at h1
        unfold fV at h1
        cases h2 : (!vP a || (decide (0 < i) && decide (a.t ≤ (l.getD (i - 1) ⟨0, 0, 0⟩).t))) with
        | true => rw [h2] at h1; cases h1
        | false =>
          simp only [Bool.or_eq_false_iff, Bool.not_eq_false', Bool.and_eq_false_iff, decide_eq_false_iff_not] at h2
          exact ⟨h2.1, fun h3 => by rcases h2.2 with h4 | h4 <;> omega⟩
      refine ⟨fun p hp => ?_, fun k p q h1 h2 => ?_, h.1, h.2⟩
      · obtain ⟨i, hi⟩ := List.mem_iff_getElem?.1 hp
        exact vP_iff.1 (no' i p hi).1
      · have h3 := (no' (k + 1) q h2).2 (by omega)
        rw [Nat.add_sub_cancel, List.getD_eq_getElem?_getD, h1] at h3
        exact h3
  · intro h
    have e : firstL (fV l) l 0 = none := firstL_none fun i a ha => by
      rw [Nat.zero_add]
      unfold fV
      have h1 := vP_iff.2 (h.pts a (List.mem_of_getElem? ha))
      have h2 : (decide (0 < i) && decide (a.t ≤ (l.getD (i - 1) ⟨0, 0, 0⟩).t)) = false := by
        by_cases c : 0 < i
        · obtain ⟨p, hp⟩ : ∃ p, l[i - 1]? = some p := ⟨l[i - 1]'(by have := get_lt ha; omega), List.getElem?_eq_getElem _⟩
          have h3 := h.inc (i - 1) p a hp (by rw [Nat.sub_add_cancel c]; exact ha)
          rw [List.getD_eq_getElem?_getD, hp]
          have : ¬ a.t ≤ p.t := by omega
          simp [this]
        · simp [c]
      rw [h1, h2]
      rfl
    rw [e]
    have h1 := h.n1
    have h2 := h.n2
    simp [h1, h2]

theorem StB.le {s : Stroke} (h : StB s) : (s.points.getD []).length ≤ 4294967296 := Nat.le_trans h.n (by omega)

/-- The side to which three points turn: as the program and as the reference compute it. -/
def sdN (a b c : Point) : Int := wr (wr (wr (b.x - a.x) * wr (c.y - a.y)) - wr (wr (b.y - a.y) * wr (c.x - a.x)))

def sgn (x : Int) : Int := if 0 < x then 1 else if x < 0 then -1 else 0

def sd (a b c : Point) : Int := sgn (sdN a b c)

theorem sgn_cs (x : Int) : sgn x = 1 ∨ sgn x = -1 ∨ sgn x = 0 := by unfold sgn; split; exact .inl rfl; split; exact .inr (.inl rfl); exact .inr (.inr rfl)

theorem sgn_neg (x : Int) : sgn (-x) = -sgn x := by unfold sgn; split <;> split <;> (try split) <;> (try split) <;> omega

theorem sideOf_sd (a b c : Point) : t_impl_sideOf a b c = some (sd a b c) := by
  unfold t_impl_sideOf sd sgn
  show (bif decide (0 < sdN a b c) then some 1 else bif decide (sdN a b c < 0) then some (-1) else some 0) = _
  by_cases h : 0 < sdN a b c
  · simp [h]
  · by_cases h2 : sdN a b c < 0 <;> simp [h, h2]

theorem l05Turn_sd (a b c : Point) : t_spec_l05Turn a b c = some (sd a b c) := sideOf_sd a b c

/-- On points that are ones, nothing is lost. -/
theorem sdN_eq {a b c : Point} (ha : PtV a) (hb : PtV b) (hc : PtV c) : sdN a b c = (b.x - a.x) * (c.y - a.y) - (b.y - a.y) * (c.x - a.x) := by
  obtain ⟨a1, a2, a3, a4, _, _⟩ := ha
  obtain ⟨b1, b2, b3, b4, _, _⟩ := hb
  obtain ⟨c1, c2, c3, c4, _, _⟩ := hc
  unfold sdN
  have w1 : wr (b.x - a.x) = b.x - a.x := wr_id (by omega) (by omega)
  have w2 : wr (c.y - a.y) = c.y - a.y := wr_id (by omega) (by omega)
  have w3 : wr (b.y - a.y) = b.y - a.y := wr_id (by omega) (by omega)
  have w4 : wr (c.x - a.x) = c.x - a.x := wr_id (by omega) (by omega)
  have bd : ∀ x y : Int, -4095 ≤ x → x ≤ 4095 → -4095 ≤ y → y ≤ 4095 → -16769025 ≤ x * y ∧ x * y ≤ 16769025 := fun x y h1 h2 h3 h4 => by
    have e : ((x * y).natAbs : Int) ≤ 16769025 := by
      rw [Int.natAbs_mul]
      have := Nat.mul_le_mul (show x.natAbs ≤ 4095 by omega) (show y.natAbs ≤ 4095 by omega)
      omega
    omega
  have b1' := bd (b.x - a.x) (c.y - a.y) (by omega) (by omega) (by omega) (by omega)
  have b2' := bd (b.y - a.y) (c.x - a.x) (by omega) (by omega) (by omega) (by omega)
  rw [w1, w2, w3, w4, wr_id (n := (b.x - a.x) * (c.y - a.y)) (by omega) (by omega), wr_id (n := (b.y - a.y) * (c.x - a.x)) (by omega) (by omega), wr_id (by omega) (by omega)]

theorem sd_swap {a b c : Point} (ha : PtV a) (hb : PtV b) (hc : PtV c) : sd b a c = -sd a b c := by
  unfold sd
  rw [← sgn_neg, sdN_eq ha hb hc, sdN_eq hb ha hc]
  congr 1
  have e1 : (a.x - b.x) * (c.y - b.y) = (a.x - b.x) * ((c.y - a.y) + (a.y - b.y)) := by congr 1; omega
  have e2 : (a.y - b.y) * (c.x - b.x) = (a.y - b.y) * ((c.x - a.x) + (a.x - b.x)) := by congr 1; omega
  have e3 : (b.x - a.x) * (c.y - a.y) = -((a.x - b.x) * (c.y - a.y)) := by rw [← Int.neg_mul]; congr 1; omega
  have e4 : (b.y - a.y) * (c.x - a.x) = -((a.y - b.y) * (c.x - a.x)) := by rw [← Int.neg_mul]; congr 1; omega
  rw [e1, e2, e3, e4, Int.mul_add, Int.mul_add, Int.mul_comm (a.y - b.y) (a.x - b.x)]
  omega

def btw (a b p : Point) : Bool := within p.x (min a.x b.x) (max a.x b.x) && within p.y (min a.y b.y) (max a.y b.y)

theorem btw_swap (a b p : Point) : btw b a p = btw a b p := by unfold btw; rw [Int.min_comm, Int.max_comm, Int.min_comm b.y, Int.max_comm b.y]

theorem between_btw (a b p : Point) : t_impl_between a b p = some (btw a b p) := by
  unfold t_impl_between btw
  simp only [obind_sm]
  cases within p.x (min a.x b.x) (max a.x b.x) <;> cases within p.y (min a.y b.y) (max a.y b.y) <;> rfl

theorem l05On_btw (a b p : Point) : t_spec_l05On a b p = some (btw a b p) := by
  unfold t_spec_l05On btw
  simp only [obind_sm]
  cases within p.x (min a.x b.x) (max a.x b.x) <;> cases within p.y (min a.y b.y) (max a.y b.y) <;> rfl

/-- Two segments have a point in common. -/
def mt (a b c d : Point) : Bool :=
  (decide (sd a b c * sd a b d < 0) && decide (sd c d a * sd c d b < 0)) || ((decide (sd a b c = 0) && btw a b c) || ((decide (sd a b d = 0) && btw a b d) || ((decide (sd c d a = 0) && btw c d a) || (decide (sd c d b = 0) && btw c d b))))

theorem sd_mul (a b c d e f : Point) : wr (sd a b c * sd d e f) = sd a b c * sd d e f := by
  have h1 := sgn_cs (sdN a b c)
  have h2 := sgn_cs (sdN d e f)
  unfold sd
  rcases h1 with h | h | h <;> rcases h2 with h' | h' | h' <;> rw [h, h'] <;> decide

theorem boolmess (p q r s t u v w x y : Bool) : (obind (bif p then (some q) else some false) fun c22 =>
    bif (bif p then c22 else false) then some true
    else
    obind (bif r then (obind (some s) fun c25 => some c25) else some false) fun c26 =>
    obind (bif (bif r then c26 else false) then some false else (some t)) fun c28 =>
    obind (bif (!(bif r then c26 else false) && c28) then (obind (some u) fun c30 => some c30) else some false) fun c31 =>
    obind (bif (bif r then c26 else false) then some false else (some (bif c28 then c31 else false))) fun c33 =>
    obind (bif (bif (bif r then c26 else false) then true else c33) then some false else (some v)) fun c35 =>
    obind (bif (!(bif (bif r then c26 else false) then true else c33) && c35) then (obind (some w) fun c37 => some c37) else some false) fun c38 =>
    obind (bif (bif (bif r then c26 else false) then true else c33) then some false else (some (bif c35 then c38 else false))) fun c40 =>
    obind (bif (bif (bif (bif r then c26 else false) then true else c33) then true else c40) then some false else (some x)) fun c42 =>
    obind (bif (!(bif (bif (bif r then c26 else false) then true else c33) then true else c40) && c42) then (obind (some y) fun c44 => some c44) else some false) fun c45 =>
    obind (bif (bif (bif (bif r then c26 else false) then true else c33) then true else c40) then some false else (some (bif c42 then c45 else false))) fun c47 =>
    some (bif (bif (bif (bif r then c26 else false) then true else c33) then true else c40) then true else c47)) = some ((p && q) || ((r && s) || ((t && u) || ((v && w) || (x && y))))) := by
  cases p <;> cases q <;> cases r <;> cases s <;> cases t <;> cases u <;> cases v <;> cases w <;> cases x <;> cases y <;> rfl

theorem meet_mt (a b c d : Point) : t_impl_meet a b c d = some (mt a b c d) := by
  unfold t_impl_meet mt
  rw [sideOf_sd, sideOf_sd, sideOf_sd, sideOf_sd, obind_sm, obind_sm, obind_sm, obind_sm, sd_mul, sd_mul, between_btw, between_btw, between_btw, between_btw]
  exact boolmess _ _ _ _ _ _ _ _ _ _

theorem l05Meet_mt (a b c d : Point) : t_spec_l05Meet a b c d = some (mt a b c d) := by
  unfold t_spec_l05Meet mt
  rw [l05Turn_sd, l05Turn_sd, l05Turn_sd, l05Turn_sd, obind_sm, obind_sm, obind_sm, obind_sm, sd_mul, sd_mul, l05On_btw, l05On_btw, l05On_btw, l05On_btw]
  exact boolmess _ _ _ _ _ _ _ _ _ _

theorem mt_cd (a b c d : Point) : mt c d a b = mt a b c d := by
  unfold mt
  cases decide (sd a b c * sd a b d < 0) <;> cases decide (sd c d a * sd c d b < 0) <;> cases (decide (sd a b c = 0) && btw a b c) <;> cases (decide (sd a b d = 0) && btw a b d) <;> cases (decide (sd c d a = 0) && btw c d a) <;> cases (decide (sd c d b = 0) && btw c d b) <;> rfl

theorem mt_ab {a b c d : Point} (ha : PtV a) (hb : PtV b) (hc : PtV c) (hd : PtV d) : mt b a c d = mt a b c d := by
  unfold mt
  rw [sd_swap ha hb hc, sd_swap ha hb hd, btw_swap a b c, btw_swap a b d, Int.neg_mul_neg, Int.mul_comm (sd c d b) (sd c d a)]
  have z : ∀ x : Int, decide (-x = 0) = decide (x = 0) := fun x => decide_eq_decide.2 (by omega)
  rw [z, z]
  cases decide (sd a b c * sd a b d < 0) <;> cases decide (sd c d a * sd c d b < 0) <;> cases (decide (sd a b c = 0) && btw a b c) <;> cases (decide (sd a b d = 0) && btw a b d) <;> cases (decide (sd c d a = 0) && btw c d a) <;> cases (decide (sd c d b = 0) && btw c d b) <;> rfl

def sumN (f : Nat → Int) : Nat → Int
  | 0 => 0
  | k + 1 => sumN f k + f k

theorem sumN_add (f g : Nat → Int) : ∀ n, sumN (fun i => f i + g i) n = sumN f n + sumN g n
  | 0 => rfl
  | n + 1 => by
    have := sumN_add f g n
    show sumN (fun i => f i + g i) n + (f n + g n) = sumN f n + f n + (sumN g n + g n)
    omega

theorem sumN_zero : ∀ n, sumN (fun _ => 0) n = 0
  | 0 => rfl
  | n + 1 => by
    show sumN (fun _ => 0) n + 0 = 0
    rw [sumN_zero n]
    rfl

theorem sumN_swap (f : Nat → Nat → Int) (m : Nat) : ∀ n, sumN (fun i => sumN (fun j => f i j) m) n = sumN (fun j => sumN (fun i => f i j) n) m
  | 0 => (sumN_zero m).symm
  | n + 1 => by
    have h := sumN_add (fun j => sumN (fun i => f i j) n) (fun j => f n j) m
    rw [← sumN_swap f m n] at h
    exact h.symm

theorem sumN_le {f : Nat → Int} {K : Int} (h : ∀ i, 0 ≤ f i ∧ f i ≤ K) : ∀ n : Nat, 0 ≤ sumN f n ∧ sumN f n ≤ K * (n : Int)
  | 0 => by simp [sumN]
  | n + 1 => by
    have h1 := sumN_le h n
    have h2 := h n
    have e : K * ((n + 1 : Nat) : Int) = K * (n : Int) + K := by
      have : ((n + 1 : Nat) : Int) = (n : Int) + 1 := by omega
      rw [this, Int.mul_add, Int.mul_one]
    show 0 ≤ sumN f n + f n ∧ sumN f n + f n ≤ _
    omega

def pt (l : List Point) (i : Nat) : Point := l.getD i ⟨0, 0, 0⟩

theorem get_pt {l : List Point} {i : Nat} (h : i < l.length) : getI l ((i : Nat) : Int) = some (pt l i) := by
  apply getI_nat
  unfold pt
  rw [List.getD_eq_getElem?_getD, List.getElem?_eq_getElem h]
  rfl

def crf (l r : List Point) (i j : Nat) : Int := bif mt (pt l i) (pt l (i + 1)) (pt r j) (pt r (j + 1)) then 1 else 0

theorem crf_le (l r : List Point) (i j : Nat) : 0 ≤ crf l r i j ∧ crf l r i j ≤ 1 := by unfold crf; cases mt (pt l i) (pt l (i + 1)) (pt r j) (pt r (j + 1)) <;> decide

/-- How many pairs of segments of two strokes meet. -/
def crs (l r : List Point) : Int := sumN (fun i => sumN (crf l r i) (r.length - 1)) (l.length - 1)

theorem crs_comm (l r : List Point) : crs r l = crs l r := by
  unfold crs
  have h := sumN_swap (fun i j => crf l r i j) (r.length - 1) (l.length - 1)
  have e : ∀ i, crf r l i = fun j => crf l r j i := fun i => by
    funext j
    unfold crf
    rw [mt_cd]
  simp only [e]
  exact h.symm

theorem cross_impl (s t : Stroke) (hs : StV (s.points.getD [])) (ht : StV (t.points.getD [])) : loopT (s0_impl_CrossingCount s t) (0, 1) = some (crs (s.points.getD []) (t.points.getD [])) := by
  obtain ⟨l, hl⟩ : ∃ l, s.points.getD [] = l := ⟨_, rfl⟩
  obtain ⟨r, hr⟩ : ∃ r, t.points.getD [] = r := ⟨_, rfl⟩
  rw [hl] at hs ⊢
  rw [hr] at ht ⊢
  have n1 := hs.n1
  have n2 := hs.n2
  have m1 := ht.n1
  have m2 := ht.n2
  have inner : ∀ (i : Nat) (w : Int), i + 1 < l.length → 0 ≤ w → w ≤ 100000 → loopT (s1_impl_CrossingCount s t ((i + 1 : Nat) : Int)) (w, 1) = some (w + sumN (crf l r i) (r.length - 1)) := by
    intro i w hi w0 w1
    have h := loopT_at (step := s1_impl_CrossingCount s t ((i + 1 : Nat) : Int)) (r.length - 1) (fun k => (w + sumN (crf l r i) k, ((k + 1 : Nat) : Int))) (w + sumN (crf l r i) (r.length - 1))
      (fun k hk => by
        have c : ((k + 1 : Nat) : Int) < ((r.length : Nat) : Int) := by omega
        have bd := sumN_le (f := crf l r i) (K := 1) (fun j => crf_le l r i j) k
        have bd' := crf_le l r i k
        have a1 : wr (((i + 1 : Nat) : Int) - 1) = ((i : Nat) : Int) := by rw [wr_id (by omega) (by omega)]; omega
        have a2 : wr (((k + 1 : Nat) : Int) - 1) = ((k : Nat) : Int) := by rw [wr_id (by omega) (by omega)]; omega
        have a3 : wr (((k + 1 : Nat) : Int) + 1) = ((k + 1 + 1 : Nat) : Int) := by rw [wr_id (by omega) (by omega)]; omega
        have g1 := get_pt (l := l) (i := i) (by omega)
        have g2 := get_pt (l := l) (i := i + 1) (by omega)
        have g3 := get_pt (l := r) (i := k) (by omega)
        have g4 := get_pt (l := r) (i := k + 1) (by omega)
        have e : sumN (crf l r i) (k + 1) = sumN (crf l r i) k + crf l r i k := rfl
        unfold s1_impl_CrossingCount
        simp only [hl, hr, c, decide_true, cond_true, a1, a2, g1, g2, g3, g4, obind_sm, meet_mt, a3, e]
        cases h : mt (pt l i) (pt l (i + 1)) (pt r k) (pt r (k + 1)) with
        | true =>
          have f : crf l r i k = 1 := by unfold crf; rw [h]; rfl
          rw [f, cond_true, wr_id (by omega) (by omega)]
          congr 3
          omega
        | false =>
          have f : crf l r i k = 0 := by unfold crf; rw [h]; rfl
          rw [f, cond_false, Int.add_zero])
      (by
        have c : ¬ ((r.length - 1 + 1 : Nat) : Int) < ((r.length : Nat) : Int) := by omega
        unfold s1_impl_CrossingCount
        simp only [hr, c, decide_false, cond_false])
      0 (Nat.zero_le _)
    have z : w + sumN (crf l r i) 0 = w := Int.add_zero w
    simp only [z] at h
    exact h
  have h := loopT_at (step := s0_impl_CrossingCount s t) (l.length - 1) (fun k => (sumN (fun i => sumN (crf l r i) (r.length - 1)) k, ((k + 1 : Nat) : Int))) (crs l r)
    (fun k hk => by
      have c : ((k + 1 : Nat) : Int) < ((l.length : Nat) : Int) := by omega
      have bd := sumN_le (f := fun i => sumN (crf l r i) (r.length - 1)) (K := 60) (fun i => by
        have := sumN_le (f := crf l r i) (K := 1) (fun j => crf_le l r i j) (r.length - 1)
        omega) k
      have a3 : wr (((k + 1 : Nat) : Int) + 1) = ((k + 1 + 1 : Nat) : Int) := by rw [wr_id (by omega) (by omega)]; omega
      have e := inner k (sumN (fun i => sumN (crf l r i) (r.length - 1)) k) (by omega) bd.1 (by omega)
      unfold s0_impl_CrossingCount
      simp only [hl, c, decide_true, cond_true, e, obind_sm, a3]
      rfl)
    (by
      have c : ¬ ((l.length - 1 + 1 : Nat) : Int) < ((l.length : Nat) : Int) := by omega
      unfold s0_impl_CrossingCount
      simp only [hl, c, decide_false, cond_false]
      rfl)
    0 (Nat.zero_le _)
  exact h

theorem cross_spec (s t : Stroke) (hs : StV (s.points.getD [])) (ht : StV (t.points.getD [])) : loopT (s0_spec_l05Crossings s t) (0, 1) = some (crs (s.points.getD []) (t.points.getD [])) := by
  obtain ⟨l, hl⟩ : ∃ l, s.points.getD [] = l := ⟨_, rfl⟩
  obtain ⟨r, hr⟩ : ∃ r, t.points.getD [] = r := ⟨_, rfl⟩
  rw [hl] at hs ⊢
  rw [hr] at ht ⊢
  have n1 := hs.n1
  have n2 := hs.n2
  have m1 := ht.n1
  have m2 := ht.n2
  have inner : ∀ (i : Nat) (w : Int), i + 1 < l.length → 0 ≤ w → w ≤ 100000 → loopT (s1_spec_l05Crossings s t ((i + 1 : Nat) : Int)) (w, 1) = some (w + sumN (crf l r i) (r.length - 1)) := by
    intro i w hi w0 w1
    have h := loopT_at (step := s1_spec_l05Crossings s t ((i + 1 : Nat) : Int)) (r.length - 1) (fun k => (w + sumN (crf l r i) k, ((k + 1 : Nat) : Int))) (w + sumN (crf l r i) (r.length - 1))
      (fun k hk => by
        have c : ((k + 1 : Nat) : Int) < ((r.length : Nat) : Int) := by omega
        have bd := sumN_le (f := crf l r i) (K := 1) (fun j => crf_le l r i j) k
        have bd' := crf_le l r i k
        have a1 : wr (((i + 1 : Nat) : Int) - 1) = ((i : Nat) : Int) := by rw [wr_id (by omega) (by omega)]; omega
        have a2 : wr (((k + 1 : Nat) : Int) - 1) = ((k : Nat) : Int) := by rw [wr_id (by omega) (by omega)]; omega
        have a3 : wr (((k + 1 : Nat) : Int) + 1) = ((k + 1 + 1 : Nat) : Int) := by rw [wr_id (by omega) (by omega)]; omega
        have g1 := get_pt (l := l) (i := i) (by omega)
        have g2 := get_pt (l := l) (i := i + 1) (by omega)
        have g3 := get_pt (l := r) (i := k) (by omega)
        have g4 := get_pt (l := r) (i := k + 1) (by omega)
        have e : sumN (crf l r i) (k + 1) = sumN (crf l r i) k + crf l r i k := rfl
        unfold s1_spec_l05Crossings
        simp only [hl, hr, c, decide_true, cond_true, a1, a2, g1, g2, g3, g4, obind_sm, l05Meet_mt, a3, e]
        cases h : mt (pt l i) (pt l (i + 1)) (pt r k) (pt r (k + 1)) with
        | true =>
          have f : crf l r i k = 1 := by unfold crf; rw [h]; rfl
          rw [f, cond_true, wr_id (by omega) (by omega)]
          congr 3
          omega
        | false =>
          have f : crf l r i k = 0 := by unfold crf; rw [h]; rfl
          rw [f, cond_false, Int.add_zero])
      (by
        have c : ¬ ((r.length - 1 + 1 : Nat) : Int) < ((r.length : Nat) : Int) := by omega
        unfold s1_spec_l05Crossings
        simp only [hr, c, decide_false, cond_false])
      0 (Nat.zero_le _)
    have z : w + sumN (crf l r i) 0 = w := Int.add_zero w
    simp only [z] at h
    exact h
  have h := loopT_at (step := s0_spec_l05Crossings s t) (l.length - 1) (fun k => (sumN (fun i => sumN (crf l r i) (r.length - 1)) k, ((k + 1 : Nat) : Int))) (crs l r)
    (fun k hk => by
      have c : ((k + 1 : Nat) : Int) < ((l.length : Nat) : Int) := by omega
      have bd := sumN_le (f := fun i => sumN (crf l r i) (r.length - 1)) (K := 60) (fun i => by
        have := sumN_le (f := crf l r i) (K := 1) (fun j => crf_le l r i j) (r.length - 1)
        omega) k
      have a3 : wr (((k + 1 : Nat) : Int) + 1) = ((k + 1 + 1 : Nat) : Int) := by rw [wr_id (by omega) (by omega)]; omega
      have e := inner k (sumN (fun i => sumN (crf l r i) (r.length - 1)) k) (by omega) bd.1 (by omega)
      unfold s0_spec_l05Crossings
      simp only [hl, c, decide_true, cond_true, e, obind_sm, a3]
      rfl)
    (by
      have c : ¬ ((l.length - 1 + 1 : Nat) : Int) < ((l.length : Nat) : Int) := by omega
      unfold s0_spec_l05Crossings
      simp only [hl, c, decide_false, cond_false]
      rfl)
    0 (Nat.zero_le _)
  exact h

theorem implCross_ok (s t : Stroke) (hs : StB s) (ht : StB t) : t_impl_CrossingCount s t = some (bif vS (s.points.getD []) && vS (t.points.getD []) then (crs (s.points.getD []) (t.points.getD []), 0) else (0, 1)) := by
  unfold t_impl_CrossingCount
  simp only [validStroke_vS s hs.le, validStroke_vS t ht.le, obind_sm]
  cases h1 : vS (s.points.getD []) with
  | false => rfl
  | true =>
    cases h2 : vS (t.points.getD []) with
    | false => rfl
    | true => simp only [Bool.not_true, cond_false, obind_sm, cross_impl s t (vS_iff.1 h1) (vS_iff.1 h2), Bool.and_self, cond_true]

theorem specCross_ok (s t : Stroke) (hs : StB s) (ht : StB t) : t_spec_CrossingCount s t = some (bif vS (s.points.getD []) && vS (t.points.getD []) then (crs (s.points.getD []) (t.points.getD []), 0) else (0, 1)) := by
  unfold t_spec_CrossingCount t_spec_l05Crossings
  simp only [l02Stroke_vS s hs.le, l02Stroke_vS t ht.le, obind_sm]
  cases h1 : vS (s.points.getD []) with
  | false => rfl
  | true =>
    cases h2 : vS (t.points.getD []) with
    | false => rfl
    | true => simp only [Bool.not_true, cond_false, obind_sm, cross_spec s t (vS_iff.1 h1) (vS_iff.1 h2), Bool.and_self, cond_true]

def smeet (a b c d : Point) : Bool := vP a && (vP b && (vP c && (vP d && mt a b c d)))

theorem implSeg_ok (a b c d : Point) : t_impl_SegmentsMeet a b c d = some (smeet a b c d) := by
  unfold t_impl_SegmentsMeet smeet
  simp only [validPoint_vP, meet_mt, obind_sm]
  cases vP a <;> cases vP b <;> cases vP c <;> cases vP d <;> cases mt a b c d <;> rfl

theorem specSeg_ok (a b c d : Point) : t_spec_SegmentsMeet a b c d = some (smeet a b c d) := by
  unfold t_spec_SegmentsMeet smeet
  simp only [l02Point_vP, l05Meet_mt, obind_sm]
  cases vP a <;> cases vP b <;> cases vP c <;> cases vP d <;> cases mt a b c d <;> rfl

theorem smeet_ab (a b c d : Point) : smeet b a c d = smeet a b c d := by
  unfold smeet
  cases h1 : vP a with
  | false => cases vP b <;> rfl
  | true =>
    cases h2 : vP b with
    | false => rfl
    | true =>
      cases h3 : vP c with
      | false => rfl
      | true =>
        cases h4 : vP d with
        | false => rfl
        | true => rw [mt_ab (vP_iff.1 h1) (vP_iff.1 h2) (vP_iff.1 h3) (vP_iff.1 h4)]

theorem smeet_cd (a b c d : Point) : smeet c d a b = smeet a b c d := by
  unfold smeet
  rw [mt_cd]
  cases vP a <;> cases vP b <;> cases vP c <;> cases vP d <;> rfl

theorem smeet_dc (a b c d : Point) : smeet a b d c = smeet a b c d := by rw [← smeet_cd a b d c, smeet_ab, smeet_cd]

def turnP (a b c : Point) : Int × Int := bif vP a && (vP b && vP c) then (sd a b c, 0) else (0, 1)

theorem implTurn_ok (a b c : Point) : t_impl_TurnOf a b c = some (turnP a b c) := by
  unfold t_impl_TurnOf turnP
  simp only [validPoint_vP, sideOf_sd, obind_sm]
  cases vP a <;> cases vP b <;> cases vP c <;> rfl

theorem specTurn_ok (a b c : Point) : t_spec_TurnOf a b c = some (turnP a b c) := by
  unfold t_spec_TurnOf turnP
  simp only [l02Point_vP, l05Turn_sd, obind_sm]
  cases vP a <;> cases vP b <;> cases vP c <;> rfl

theorem turn_swap (a b c : Point) (h : (turnP a b c).2 = 0) : (turnP b a c).1 = wr (0 - (turnP a b c).1) := by
  unfold turnP at h ⊢
  cases h1 : vP a with
  | false => rw [h1] at h; cases h
  | true =>
    cases h2 : vP b with
    | false => rw [h1, h2] at h; cases h
    | true =>
      cases h3 : vP c with
      | false => rw [h1, h2, h3] at h; cases h
      | true =>
        simp only [Bool.and_self, cond_true]
        rw [sd_swap (vP_iff.1 h1) (vP_iff.1 h2) (vP_iff.1 h3)]
        rcases sgn_cs (sdN a b c) with e | e | e <;> unfold sd <;> rw [e] <;> decide

theorem dr_point {s : l00Src} {k : Int} (h : SK s k) (hk : k ≤ 100000000) : ∃ p s', t_spec_l05DrawPoint s = some (p, s') ∧ SK s' (k + 100) := by
  obtain ⟨r1, s1, e1, k1, _, _, _⟩ := dr_pick h (by omega) (n := 12) (by omega)
  obtain ⟨r2, s2, e2, k2, _, _, _⟩ := dr_pick k1 (by omega) (n := 12) (by omega)
  obtain ⟨b3, s3, e3, k3⟩ := dr_one k2 (by omega) (n := 4) (by omega)
  unfold t_spec_l05DrawPoint
  simp only [e1, e2, e3, obind_sm]
  have tail : ∀ (s4 : l00Src) (k4 : Int), SK s4 k4 → k4 ≤ k + 20 → ∀ x : Int, ∃ p s', (obind (t_spec_l00Src_pick s4 30) fun c30 =>
    bif decide (c30.1 = 0) then
      obind (t_spec_l00Src_among c30.2 (some ([(-1), 4095, 4096] : List Int))) fun c41 =>
      obind (t_spec_l00Src_pick c41.2 50) fun c47 =>
      some ((⟨c41.1, r2, c47.1⟩ : Point), (⟨c47.2.code, c47.2.pos, c47.2.seed⟩ : l00Src))
    else
      bif decide (c30.1 = 1) then
        obind (t_spec_l00Src_among c30.2 (some ([(-1), 4095, 4096] : List Int))) fun c61 =>
        obind (t_spec_l00Src_pick c61.2 50) fun c67 =>
        some ((⟨x, c61.1, c67.1⟩ : Point), (⟨c67.2.code, c67.2.pos, c67.2.seed⟩ : l00Src))
      else
        obind (t_spec_l00Src_pick c30.2 50) fun c76 =>
        some ((⟨x, r2, c76.1⟩ : Point), (⟨c76.2.code, c76.2.pos, c76.2.seed⟩ : l00Src))) = some (p, s') ∧ SK s' (k + 100) := by
    intro s4 k4 h4 hk4 x
    obtain ⟨r5, s5, e5, k5, _, _, _⟩ := dr_pick h4 (by omega) (n := 30) (by omega)
    rw [e5, obind_sm]
    by_cases c0 : r5 = 0
    · obtain ⟨r6, s6, e6, k6, _⟩ := dr_among k5 (by omega) (l := [-1, 4095, 4096]) (by simp) (by simp)
      obtain ⟨r7, s7, e7, k7, _, _, _⟩ := dr_pick k6 (by omega) (n := 50) (by omega)
      simp only [c0, decide_true, cond_true, e6, e7, obind_sm]
      exact ⟨_, _, rfl, k7.mono (by omega)⟩
    by_cases c1 : r5 = 1
    · obtain ⟨r6, s6, e6, k6, _⟩ := dr_among k5 (by omega) (l := [-1, 4095, 4096]) (by simp) (by simp)
      obtain ⟨r7, s7, e7, k7, _, _, _⟩ := dr_pick k6 (by omega) (n := 50) (by omega)
      have d0 : decide (r5 = 0) = false := decide_eq_false c0
      have d1 : decide (r5 = 1) = true := decide_eq_true c1
      simp only [d0, d1, cond_true, cond_false, e6, e7, obind_sm]
      exact ⟨_, _, rfl, k7.mono (by omega)⟩
    · obtain ⟨r7, s7, e7, k7, _, _, _⟩ := dr_pick k5 (by omega) (n := 50) (by omega)
      simp only [c0, c1, decide_false, cond_false, e7, obind_sm]
      exact ⟨_, _, rfl, k7.mono (by omega)⟩
  cases b3 with
  | true =>
    obtain ⟨r4, s4, e4, k4, _, _, _⟩ := dr_pick k3 (by omega) (n := 4096) (by omega)
    simp only [cond_true, e4, obind_sm]
    exact tail s4 _ k4 (by omega) r4
  | false =>
    simp only [cond_false]
    exact tail s3 _ k3 (by omega) r1

theorem true_FnMeets (code : Sl UInt8) : t_laws_FnMeets code = some true := by
  unfold t_laws_FnMeets t_laws_f6big
  by_cases c0 : 4096 < (((code.getD []).length : Nat) : Int)
  · simp only [c0, decide_true, obind_sm, cond_true]
  have hs : SK ⟨code, 0, 0⟩ 0 := ⟨by simp, by simp⟩
  obtain ⟨a, s1, e1, k1⟩ := dr_point hs (by omega)
  obtain ⟨b, s2, e2, k2⟩ := dr_point k1 (by omega)
  obtain ⟨c, s3, e3, k3⟩ := dr_point k2 (by omega)
  obtain ⟨d, s4, e4, k4⟩ := dr_point k3 (by omega)
  have D1 : t_spec_DrawSegmentsMeet code = some (a, b, c, d) := by
    unfold t_spec_DrawSegmentsMeet
    simp only [e1, e2, e3, e4, obind_sm]
  obtain ⟨p, s5, e5, k5, sp⟩ := dr_l05 hs (by omega)
  obtain ⟨q, s6, e6, k6, sq⟩ := dr_l05 k5 (by omega)
  have D2 : t_spec_DrawCrossingCount code = some (p, q) := by
    unfold t_spec_DrawCrossingCount
    simp only [e5, e6, obind_sm]
  have C3 : t_impl_CrossingCount q p = t_impl_CrossingCount p q := by
    rw [implCross_ok q p sq sp, implCross_ok p q sp sq, crs_comm, Bool.and_comm]
  simp only [c0, decide_false, obind_sm, cond_false, D1, implSeg_ok, specSeg_ok, implTurn_ok, specTurn_ok, D2, C3, implCross_ok p q sp sq, specCross_ok p q sp sq, smeet_ab a b c d, smeet_cd a b c d, smeet_dc a b c d, beq_self_eq_true, decide_true, Bool.not_true, cond_true]
  by_cases t0 : (turnP a b c).2 = 0
  · have := turn_swap a b c t0
    simp only [t0, this, decide_true, cond_true, Bool.not_true, cond_false, obind_sm, Bool.not_false, Bool.and_self]
  · simp only [t0, decide_false, cond_true, Bool.not_true, cond_false, obind_sm, Bool.not_false, Bool.and_false]

theorem ok_laws_FnMeets : PureOK Try.prog n_laws_FnMeets (G1 (fun a : Sl UInt8 => Wt.big a) fun _ => bv true) := lawC1 tt_laws_FnMeets fun a _ => true_FnMeets a

theorem law_FnMeets (a : Sl UInt8) (ha : Row.fine a) : G1 (fun a : Sl UInt8 => Wt.big a) (fun _ => bv true) [enc a] = some (bv true) := G1_enc _ _ a (by simp [Wt.fb a ha])

/-- One pair lies ahead of another. -/
def Pre (p q i j : Nat) : Prop := (i = p + 1 ∧ j = q + 1) ∨ (i = p + 1 ∧ j = q) ∨ (i = p ∧ j = q + 1)

/-- A path's cost, from the first pair on. -/
inductive Pth (C : Nat → Nat → Int) (R : Nat → Nat → Prop) : Nat → Nat → Int → Prop
  | start : R 0 0 → Pth C R 0 0 (C 0 0)
  | step {p q i j : Nat} {c : Int} : Pth C R p q c → Pre p q i j → R i j → Pth C R i j (c + C i j)

/-- The least cost of the paths to a pair, `B` where there is none. -/
def Opt (B : Int) (C : Nat → Nat → Int) (R : Nat → Nat → Prop) (i j : Nat) (v : Int) : Prop :=
  (v = B ∧ ∀ c, ¬ Pth C R i j c) ∨ (v < B ∧ Pth C R i j v ∧ ∀ c, Pth C R i j c → v ≤ c)

theorem Opt.le {B : Int} {C : Nat → Nat → Int} {R : Nat → Nat → Prop} {i j : Nat} {v : Int} (h : Opt B C R i j v) : v ≤ B := by
  rcases h with ⟨h, _⟩ | ⟨h, _⟩ <;> omega

theorem Pth.mono {C D : Nat → Nat → Int} {R S : Nat → Nat → Prop} {i j : Nat} {c : Int} (h : Pth C R i j c) (hR : ∀ p q, p ≤ i → q ≤ j → R p q → S p q) (hC : ∀ p q, p ≤ i → q ≤ j → C p q = D p q) : Pth D S i j c := by
  induction h with
  | start h =>
    rw [hC 0 0 (Nat.le_refl _) (Nat.le_refl _)]
    exact .start (hR 0 0 (Nat.le_refl _) (Nat.le_refl _) h)
  | @step p q i j c h1 h2 h3 ih =>
    have hle : p ≤ i ∧ q ≤ j := by rcases h2 with h | h | h <;> omega
    rw [hC i j (Nat.le_refl _) (Nat.le_refl _)]
    exact .step (ih (fun a b h4 h5 => hR a b (by omega) (by omega)) (fun a b h4 h5 => hC a b (by omega) (by omega))) h2 (hR i j (Nat.le_refl _) (Nat.le_refl _) h3)

def fAt (l : List Feat) (i : Nat) : Feat := l.getD i ⟨0, 0, 0⟩

def siz (x : Int) : Int := if x < 0 then -x else x

def fcost (a b : Feat) : Int := siz (a.x - b.x) + siz (a.y - b.y) + 16 * min (siz (a.d - b.d)) (8 - siz (a.d - b.d))

/-- A table's entry. -/
def Val (T : List (Sl Int)) (p q : Nat) (v : Int) : Prop := ∃ row, T[p]? = some (some row) ∧ row[q]? = some v

abbrev far : Int := 1099511627776

abbrev elC (a b : List Feat) : Nat → Nat → Int := fun i j => fcost (fAt a i) (fAt b j)

abbrev elR (band : Int) : Nat → Nat → Prop := fun i j => siz ((i : Int) - (j : Int)) ≤ band

/-- The table's rows ahead of `i`, and `j` entries of row `i`, are the least costs. -/
structure Tbl (a b : List Feat) (band : Int) (i j : Nat) (T : List (Sl Int)) : Prop where
  len : T.length = a.length
  val : ∀ p q, q < b.length → (p < i ∨ p = i ∧ q < j) → ∃ v, Val T p q v ∧ Opt far (elC a b) (elR band) p q v

theorem Val.set {T : List (Sl Int)} {i j p q : Nat} {row : List Int} {v w : Int} (hr : T[i]? = some (some row)) (hj : j < row.length) :
    Val (T.set i (some (row.set j w))) p q v ↔ (p = i ∧ q = j ∧ v = w) ∨ (¬ (p = i ∧ q = j) ∧ Val T p q v) := by
  have hi := get_lt hr
  unfold Val
  constructor
  · rintro ⟨r, h1, h2⟩
    by_cases c : i = p
    · subst c
      rw [List.getElem?_set_self hi] at h1
      cases h1
      by_cases d : j = q
      · subst d
        rw [List.getElem?_set_self hj] at h2
        cases h2
        exact .inl ⟨rfl, rfl, rfl⟩
      · rw [List.getElem?_set_ne d] at h2
        exact .inr ⟨fun h => d h.2.symm, row, hr, h2⟩
    · rw [List.getElem?_set_ne c] at h1
      exact .inr ⟨fun h => c h.1.symm, r, h1, h2⟩
  · rintro (⟨rfl, rfl, rfl⟩ | ⟨hne, r, h1, h2⟩)
    · exact ⟨_, List.getElem?_set_self hi, List.getElem?_set_self hj⟩
    · by_cases c : i = p
      · subst c
        rw [hr] at h1
        cases h1
        have d : j ≠ q := fun h => hne ⟨rfl, h.symm⟩
        exact ⟨_, List.getElem?_set_self hi, by rw [List.getElem?_set_ne d]; exact h2⟩
      · exact ⟨r, by rw [List.getElem?_set_ne c]; exact h1, h2⟩

theorem Tbl.step {a b : List Feat} {band : Int} {i j : Nat} {T : List (Sl Int)} {row : List Int} {v : Int} (h : Tbl a b band i j T) (hr : T[i]? = some (some row)) (hj : j < row.length) (ho : Opt far (elC a b) (elR band) i j v) : Tbl a b band i (j + 1) (T.set i (some (row.set j v))) := by
  refine ⟨by simp [h.len], fun p q hq hpq => ?_⟩
  by_cases e : p = i ∧ q = j
  · obtain ⟨rfl, rfl⟩ := e
    exact ⟨v, (Val.set hr hj).2 (.inl ⟨rfl, rfl, rfl⟩), ho⟩
  · obtain ⟨w, h1, h2⟩ := h.val p q hq (by omega)
    exact ⟨w, (Val.set hr hj).2 (.inr ⟨e, h1⟩), h2⟩

/-- A path through rows from the first one on, from any column `f`. -/
def PF (C : Nat → Nat → Int) (f i j : Nat) (c : Int) : Prop := f ≤ j ∧ Pth (fun p q => C p (q + f)) (fun _ _ => True) i (j - f) c

theorem PF.start {C : Nat → Nat → Int} (j : Nat) : PF C j 0 j (C 0 j) := by
  refine ⟨Nat.le_refl _, ?_⟩
  have h := Pth.start (C := fun p q => C p (q + j)) (R := fun _ _ => True) trivial
  simp only [Nat.zero_add] at h
  rw [Nat.sub_self]
  exact h

theorem PF.step {C : Nat → Nat → Int} {f p q i j : Nat} {c : Int} (h : PF C f p q c) (hp : Pre p q i j) : PF C f i j (c + C i j) := by
  obtain ⟨h1, h2⟩ := h
  have hj : q ≤ j := by unfold Pre at hp; omega
  refine ⟨by omega, ?_⟩
  have h3 : Pth (fun p q => C p (q + f)) (fun _ _ => True) i (j - f) (c + C i (j - f + f)) := Pth.step (i := i) (j := j - f) h2 (by unfold Pre at *; omega) trivial
  rw [Nat.sub_add_cancel (by omega)] at h3
  exact h3

/-- The least of the paths to a pair, and where it begins. -/
def PO (C : Nat → Nat → Int) (i j : Nat) (x : Part) : Prop := ∃ f : Nat, x.frm = (f : Int) ∧ PF C f i j x.cost ∧ ∀ g c, PF C g i j c → x.cost ≤ c

def PVal (T : List (Sl Part)) (p q : Nat) (v : Part) : Prop := ∃ row, T[p]? = some (some row) ∧ row[q]? = some v

theorem PVal.set {T : List (Sl Part)} {i j p q : Nat} {row : List Part} {v w : Part} (hr : T[i]? = some (some row)) (hj : j < row.length) :
    PVal (T.set i (some (row.set j w))) p q v ↔ (p = i ∧ q = j ∧ v = w) ∨ (¬ (p = i ∧ q = j) ∧ PVal T p q v) := by
  have hi := get_lt hr
  unfold PVal
  constructor
  · rintro ⟨r, h1, h2⟩
    by_cases c : i = p
    · subst c
      rw [List.getElem?_set_self hi] at h1
      cases h1
      by_cases d : j = q
      · subst d
        rw [List.getElem?_set_self hj] at h2
        cases h2
        exact .inl ⟨rfl, rfl, rfl⟩
      · rw [List.getElem?_set_ne d] at h2
        exact .inr ⟨fun h => d h.2.symm, row, hr, h2⟩
    · rw [List.getElem?_set_ne c] at h1
      exact .inr ⟨fun h => c h.1.symm, r, h1, h2⟩
  · rintro (⟨rfl, rfl, rfl⟩ | ⟨hne, r, h1, h2⟩)
    · exact ⟨_, List.getElem?_set_self hi, List.getElem?_set_self hj⟩
    · by_cases c : i = p
      · subst c
        rw [hr] at h1
        cases h1
        have d : j ≠ q := fun h => hne ⟨rfl, h.symm⟩
        exact ⟨_, List.getElem?_set_self hi, by rw [List.getElem?_set_ne d]; exact h2⟩
      · exact ⟨r, by rw [List.getElem?_set_ne c]; exact h1, h2⟩

/-- The entries ahead of a place are the least parts. -/
structure PTbl (a b : List Feat) (i j : Nat) (T : List (Sl Part)) : Prop where
  len : T.length = a.length
  rows : ∀ (k : Nat) (row : List Part), T[k]? = some (some row) → row.length = b.length
  val : ∀ p q, q < b.length → (p < i ∨ p = i ∧ q < j) → ∃ v, PVal T p q v ∧ PO (elC a b) p q v

theorem rows_set {m : Nat} {T : List (Sl Part)} {i : Nat} {r : List Part} (h : ∀ (k : Nat) (row : List Part), T[k]? = some (some row) → row.length = m) (hr : r.length = m) : ∀ (k : Nat) (row : List Part), (T.set i (some r))[k]? = some (some row) → row.length = m := by
  intro k row hk
  by_cases c : i = k
  · subst c
    have hlt := get_lt hk
    rw [List.length_set] at hlt
    rw [List.getElem?_set_self hlt] at hk
    cases hk
    exact hr
  · rw [List.getElem?_set_ne c] at hk
    exact h k row hk

theorem PTbl.step {a b : List Feat} {i j : Nat} {T : List (Sl Part)} {row : List Part} {v : Part} (h : PTbl a b i j T) (hr : T[i]? = some (some row)) (hj : j < b.length) (ho : PO (elC a b) i j v) : PTbl a b i (j + 1) (T.set i (some (row.set j v))) := by
  have hl := h.rows _ _ hr
  refine ⟨by rw [List.length_set, h.len], rows_set h.rows (by rw [List.length_set, hl]), fun p q hq hpq => ?_⟩
  by_cases e : p = i ∧ q = j
  · obtain ⟨rfl, rfl⟩ := e
    exact ⟨v, (PVal.set hr (by omega)).2 (.inl ⟨rfl, rfl, rfl⟩), ho⟩
  · obtain ⟨w, h1, h2⟩ := h.val p q hq (by omega)
    exact ⟨w, (PVal.set hr (by omega)).2 (.inr ⟨e, h1⟩), h2⟩

theorem isC_5 {cs : List AV} (h : IsC Try.prog 5 cs) : ∃ x : UInt8, cs = Row.cells x ∧ Row.fine x := by
  obtain ⟨n, rfl, hn⟩ := IsC.intE Try.underlying5 h
  exact byte_of hn
theorem isC_22 {cs : List AV} (h : IsC Try.prog 22 cs) : ∃ x : (Sl UInt8), cs = Row.cells x ∧ Row.fine x := by
  rcases IsC.sliceE Try.underlying22 h with rfl | ⟨rows, rfl, h1, h2⟩
  · exact ⟨none, rfl, Sl.fineNil⟩
  · exact Sl.isC (by kernel_rfl) h1 fun row hr => isC_5 (h2 row hr)
theorem own : ownKnob Try.prog.godebug = none := by kernel_rfl
theorem laidOut : laidOutB Try.prog = true := by kernel_rfl

set_option maxRecDepth 100000 in
theorem holds : Rows.FnMeetsSaid :=
  OpenClaim.holds_of_wide 5 Try.f5 rfl rfl rfl rfl rfl rfl rfl ⟨rfl, rfl, rfl, rfl, rfl⟩ rfl rfl rfl rfl rfl (by kernel_rfl) Try.func5 (by kernel_rfl)
    (of_decide_eq_true (by kernel_rfl)) (by unfold Func.isWrapper; rw [if_neg (by decide +kernel)]; exact ⟨rfl, rfl⟩)
    (fun os started H enc _ => law_lifted (C := Try.checked) (s := Rows.fnMeetsSpec) own started (by kernel_rfl) Try.func5
      (ChangeSpec.witness6 (enc := enc) (C := Try.checked) false ⟨#[], #[.slice none 0 0], []⟩ 8 (by kernel_rfl) (by kernel_rfl) (by kernel_rfl) (by kernel_rfl))
      laidOut rfl (tb := 4) rfl Try.underlying4 (ts := [22, 5]) (by kernel_rfl)
      (fun ds h => by match ds, h with | [d0], _ => rfl)
      hb_laws_FnMeets ok_laws_FnMeets (by
    intro l h
    obtain ⟨a0, l0, rfl, g0, k0⟩ := h
    cases k0
    obtain ⟨b0, e0, w0⟩ := isC_22 (isV_one (by kernel_rfl) g0)
    obtain rfl := one_enc e0
    exact law_FnMeets b0 w0))
#print axioms holds
end Go.Proofs.Ytdklppipegepdaa
