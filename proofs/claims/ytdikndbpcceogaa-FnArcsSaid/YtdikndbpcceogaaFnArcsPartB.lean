/-
  Functions that the law FnArcs reaches: their walks and contracts, part 2.
-/
import Derived.Test.YtdikndbpcceogaaFnArcsPartA
namespace Go.Proofs.Ytdikndbpcceogaa
open Go Go.Eng Go.Eng.Cod
set_option maxRecDepth 100000
set_option linter.unusedVariables false
set_option linter.unusedSimpArgs false

theorem tl0_impl_arcsOf (env : Nat → Contract) {B : Base} (he_impl_lengthOf : env n_impl_lengthOf = .pure (C2 (fun c : Int => enc c) t_impl_lengthOf)) (s_ : Stroke) (o1 : Nat) (x5 : AV)  {st : (Sl Int) × Int} {tm : TM} {h : Heap} (R : (fun (st : (Sl Int) × Int) tm h11 => match st with | (w10, w13) => ∃ z9, tm = [AV.agg [Sl.enc s_.points], AV.ptr o1 1 0 0, nilS, z9, iv w13, x5, AV.top, AV.top, AV.top, AV.top, AV.top, AV.top, AV.top, AV.top, AV.top, AV.top, AV.top, AV.top, AV.top, AV.top, AV.top, AV.top, AV.top, AV.top, AV.top, AV.top, AV.top, AV.top, AV.top, AV.top, AV.top, AV.top, AV.top, AV.top, und] ∧ Hold B h11 [(AV.ptr o1 1 0 0, .pt 1 [Sl.enc s_.points]), (z9, obS (w10 : Sl Int))]) st tm h) : Sim (loopP hm0_impl_arcsOf xm0_impl_arcsOf (lb0_impl_arcsOf env) tm h) (loopT (s0_impl_arcsOf s_) st) (fun (q : Sl Int) (r : Res) => match q with | q17 => ∃ (q18 : Int) (z16 : AV) (h14 : Heap), r = (.exit 0, [AV.agg [Sl.enc s_.points], AV.ptr o1 1 0 0, nilS, z16, iv q18, x5, AV.top, AV.top, AV.top, AV.top, AV.top, AV.top, AV.top, AV.top, AV.top, AV.top, AV.top, AV.top, AV.top, AV.top, AV.top, AV.top, AV.top, AV.top, AV.top, AV.top, AV.top, AV.top, AV.top, AV.top, AV.top, AV.top, AV.top, AV.top, und], h14) ∧ Hold B h14 [(AV.ptr o1 1 0 0, .pt 1 [Sl.enc s_.points]), (z16, obS (q17 : Sl Int))]) := by
  refine loop_sim (Rel := fun (st : (Sl Int) × Int) tm h11 => match st with | (w10, w13) => ∃ z9, tm = [AV.agg [Sl.enc s_.points], AV.ptr o1 1 0 0, nilS, z9, iv w13, x5, AV.top, AV.top, AV.top, AV.top, AV.top, AV.top, AV.top, AV.top, AV.top, AV.top, AV.top, AV.top, AV.top, AV.top, AV.top, AV.top, AV.top, AV.top, AV.top, AV.top, AV.top, AV.top, AV.top, AV.top, AV.top, AV.top, AV.top, AV.top, und] ∧ Hold B h11 [(AV.ptr o1 1 0 0, .pt 1 [Sl.enc s_.points]), (z9, obS (w10 : Sl Int))]) (fun st tm h11 R => ?_) R
  obtain ⟨w10, w13⟩ := st
  obtain ⟨z9, rfl, O12⟩ := R
  rw [e_lb0_impl_arcsOf]
  unfold s0_impl_arcsOf
  dsimp only
  refine sim_let (v := AV.ptr o1 1 0 0) rfl ?_
  refine sim_let (v := Sl.enc s_.points) (O12.ld 0 rfl false 1 0) ?_
  refine sim_let (v := iv (((s_.points.getD []).length : Nat) : Int)) (Tab.enc h11 s_.points).len ?_
  refine sim_let (v := bv (decide (w13 < (((s_.points.getD []).length : Nat) : Int)))) (aBin_lss _ _) ?_
  refine sim_cond (fun c19 => ?_) (fun c19 => ?_)
  · refine sim_let (v := iv (wr (w13 - 1))) (aBin_sub _ _) ?_
    refine sim_get (O12.tab (A := Int) (s := w10) 1 rfl) (fun m21 a20 hi22 hm23 => ?_)
    refine sim_let (v := iv a20) ((O12.tab (A := Int) (s := w10) 1 rfl).ld hm23 false 1 0) ?_
    refine sim_let (v := AV.ptr o1 1 0 0) rfl ?_
    refine sim_let (v := Sl.enc s_.points) (O12.ld 0 rfl false 1 0) ?_
    refine sim_let (v := iv (wr (w13 - 1))) (aBin_sub _ _) ?_
    refine sim_get (Tab.enc h11 s_.points) (fun m25 a24 hi26 hm27 => ?_)
    refine sim_let (v := AV.agg [iv a24.x, iv a24.y, iv a24.t]) ((Tab.enc h11 s_.points).ld hm27 true 3 0) ?_
    refine sim_let (v := AV.ptr o1 1 0 0) rfl ?_
    refine sim_let (v := Sl.enc s_.points) (O12.ld 0 rfl false 1 0) ?_
    refine sim_get (Tab.enc h11 s_.points) (fun m29 a28 hi30 hm31 => ?_)
    refine sim_let (v := AV.agg [iv a28.x, iv a28.y, iv a28.t]) ((Tab.enc h11 s_.points).ld hm31 true 3 0) ?_
    refine sim_callQ2 he_impl_lengthOf (snapD_nr _ a24 rfl) (snapD_nr _ a28 rfl) (fun c32 => ?_)
    refine sim_let2 (hand_plain (by rfl) _ _) ?_
    refine sim_let (v := iv (wr (a20 + c32))) (aBin_add _ _) ?_
    refine sim_build (A := Int) O12 ([wr (a20 + c32)] : List Int) rfl (by first | rfl | simp [aFillRows, zrows]) rfl (fun x33 h34 O35 => ?_)
    replace O35 : Hold B h34 [(AV.ptr o1 1 0 0, .pt 1 [Sl.enc s_.points]), (z9, obS (w10 : Sl Int)), (x33, obS ((some ([wr (a20 + c32)] : List Int)) : Sl Int))] := O35
    refine sim_append (A := Int) (s := w10) O35 1 ([wr (a20 + c32)] : List Int) rfl (O35.src (A := Int) (s := (some ([wr (a20 + c32)] : List Int))) 2 rfl) (by decide) (fun x38 h39 O40 => ?_)
    replace O40 : Hold B h39 [(AV.ptr o1 1 0 0, .pt 1 [Sl.enc s_.points]), (x38, obS ((appS w10 ([wr (a20 + c32)] : List Int)) : Sl Int)), (x33, obS ((some ([wr (a20 + c32)] : List Int)) : Sl Int))] := O40
    have O42 : Hold B h39 [(AV.ptr o1 1 0 0, .pt 1 [Sl.enc s_.points]), (x38, obS ((appS w10 ([wr (a20 + c32)] : List Int)) : Sl Int))] := O40.sel [0, 1] (by decide) rfl
    refine sim_let (v := iv (wr (w13 + 1))) (aBin_add _ _) ?_
    exact sim_ret ⟨rfl, _, rfl, O42⟩
  · exact sim_ret ⟨nofun, _, _, _, rfl, O12⟩
theorem ts_impl_arcsOf (env : Nat → Contract) (he_impl_lengthOf : env n_impl_lengthOf = .pure (C2 (fun c : Int => enc c) t_impl_lengthOf)) (s_ : Stroke) : Sim (denFn Try.prog env n_impl_arcsOf [AV.agg [Sl.enc s_.points]] []) (t_impl_arcsOf s_) fun c p => release p.2 depth p.1 = some ((fun c : (Sl Int) => rS c) c) := by
  have O := Hold.nil []
  generalize hB : (⟨[], []⟩ : Base) = B at O
  clear hB
  rw [e_impl_arcsOf]
  unfold t_impl_arcsOf
  refine sim_box O (cs := [Sl.enc s_.points]) (by first | rfl | simp) (fun o1 h2 O3 => ?_)
  replace O3 : Hold B h2 [(AV.ptr o1 1 0 0, .pt 1 [Sl.enc s_.points])] := O3
  refine sim_build (A := Int) O3 ([0] : List Int) rfl (by first | rfl | simp [aFillRows, zrows]) rfl (fun x5 h6 O7 => ?_)
  replace O7 : Hold B h6 [(AV.ptr o1 1 0 0, .pt 1 [Sl.enc s_.points]), (x5, obS ((some ([0] : List Int)) : Sl Int))] := O7
  refine sim_bind ((tl0_impl_arcsOf env he_impl_lengthOf s_ o1 x5) ⟨_, rfl, O7⟩) (fun qq46 r hq => ?_)
  revert hq
  revert qq46
  intro q17 hq
  obtain ⟨q18, z16, h14, rfl, O15⟩ := hq
  rw [e_lk0x0_impl_arcsOf]
  exact sim_ret (O15.rel (A := Int) (s := q17) 1 rfl)
theorem tt_impl_arcsOf : PureOK Try.prog n_impl_arcsOf (C1 (fun c : (Sl Int) => rS c) t_impl_arcsOf) := pureC1 (Econs tt_impl_lengthOf E0) mixed hb_impl_arcsOf fun s_ => ts_impl_arcsOf _ (by simp [envL]) s_

def t_impl_strokeLength (s_ : Stroke) : Option Int :=
  obind (t_impl_arcsOf s_) fun c5 =>
  obind (getI (c5.getD []) (wr ((((c5.getD []).length : Nat) : Int) - 1))) fun a10 =>
  some a10

theorem ts_impl_strokeLength (env : Nat → Contract) (he_impl_arcsOf : env n_impl_arcsOf = .pure (C1 (fun c : (Sl Int) => rS c) t_impl_arcsOf)) (s_ : Stroke) : Sim (denFn Try.prog env n_impl_strokeLength [AV.agg [Sl.enc s_.points]] []) (t_impl_strokeLength s_) fun c p => release p.2 depth p.1 = some ((fun c : Int => enc c) c) := by
  have O := Hold.nil []
  generalize hB : (⟨[], []⟩ : Base) = B at O
  clear hB
  rw [e_impl_strokeLength]
  unfold t_impl_strokeLength
  refine sim_box O (cs := [Sl.enc s_.points]) (by first | rfl | simp) (fun o1 h2 O3 => ?_)
  replace O3 : Hold B h2 [(AV.ptr o1 1 0 0, .pt 1 [Sl.enc s_.points])] := O3
  refine sim_let (v := AV.agg [Sl.enc s_.points]) (O3.ld 0 rfl true 1 0) ?_
  refine sim_call1 he_impl_arcsOf (snapD_nr _ s_ rfl) (fun c5 => ?_)
  refine sim_hand (A := Int) O3 (fun x7 h8 O9 => ?_)
  replace O9 : Hold B h8 [(AV.ptr o1 1 0 0, .pt 1 [Sl.enc s_.points]), (x7, obS (c5 : Sl Int))] := O9
  refine sim_let (v := iv (((c5.getD []).length : Nat) : Int)) (O9.tab (A := Int) (s := c5) 1 rfl).len ?_
  refine sim_let (v := iv (wr ((((c5.getD []).length : Nat) : Int) - 1))) (aBin_sub _ _) ?_
  refine sim_get (O9.tab (A := Int) (s := c5) 1 rfl) (fun m11 a10 hi12 hm13 => ?_)
  refine sim_let (v := iv a10) ((O9.tab (A := Int) (s := c5) 1 rfl).ld hm13 false 1 0) ?_
  exact sim_ret (release_plain (by rfl) _)
theorem tt_impl_strokeLength : PureOK Try.prog n_impl_strokeLength (C1 (fun c : Int => enc c) t_impl_strokeLength) := pureC1 (Econs tt_impl_arcsOf E0) mixed hb_impl_strokeLength fun s_ => ts_impl_strokeLength _ (by simp [envL]) s_

def t_impl_StrokeLength (s_ : Stroke) : Option (Int × Int) :=
  obind (t_impl_ValidStroke s_) fun c5 =>
  bif !c5 then
    some (0, 1)
  else
    obind (t_impl_strokeLength s_) fun c7 =>
    some (c7, 0)

theorem ts_impl_StrokeLength (env : Nat → Contract) (he_impl_ValidStroke : env n_impl_ValidStroke = .pure (C1 (fun c : Bool => enc c) t_impl_ValidStroke)) (he_impl_strokeLength : env n_impl_strokeLength = .pure (C1 (fun c : Int => enc c) t_impl_strokeLength)) (s_ : Stroke) : Sim (denFn Try.prog env n_impl_StrokeLength [AV.agg [Sl.enc s_.points]] []) (t_impl_StrokeLength s_) fun c p => release p.2 depth p.1 = some ((fun c : Int × Int => AV.tup [enc c.1, enc c.2]) c) := by
  have O := Hold.nil []
  generalize hB : (⟨[], []⟩ : Base) = B at O
  clear hB
  rw [e_impl_StrokeLength]
  unfold t_impl_StrokeLength
  refine sim_box O (cs := [Sl.enc s_.points]) (by first | rfl | simp) (fun o1 h2 O3 => ?_)
  replace O3 : Hold B h2 [(AV.ptr o1 1 0 0, .pt 1 [Sl.enc s_.points])] := O3
  refine sim_let (v := AV.agg [Sl.enc s_.points]) (O3.ld 0 rfl true 1 0) ?_
  refine sim_call1 he_impl_ValidStroke (snapD_nr _ s_ rfl) (fun c5 => ?_)
  refine sim_let2 (hand_plain (by rfl) _ _) ?_
  refine sim_let (v := bv (!c5)) (aUn_not _) ?_
  refine sim_cond (fun c6 => ?_) (fun c6 => ?_)
  · exact sim_ret (release_plain (by rfl) _)
  · refine sim_let (v := AV.agg [Sl.enc s_.points]) (O3.ld 0 rfl true 1 0) ?_
    refine sim_call1 he_impl_strokeLength (snapD_nr _ s_ rfl) (fun c7 => ?_)
    refine sim_let2 (hand_plain (by rfl) _ _) ?_
    exact sim_ret (release_plain (by rfl) _)
theorem tt_impl_StrokeLength : PureOK Try.prog n_impl_StrokeLength (C1 (fun c : Int × Int => AV.tup [enc c.1, enc c.2]) t_impl_StrokeLength) := pureC1 (Econs tt_impl_ValidStroke (Econs tt_impl_strokeLength E0)) mixed hb_impl_StrokeLength fun s_ => ts_impl_StrokeLength _ (by simp [envL]) (by simp [envL]) s_

def s0_spec_l05Sum (s_ : Stroke) : (Int × Int) → Option (Sum (Int × Int) Int) := fun (w3, w4) =>
  bif decide (w4 < (((s_.points.getD []).length : Nat) : Int)) then
    obind (getI (s_.points.getD []) (wr (w4 - 1))) fun a10 =>
    obind (getI (s_.points.getD []) w4) fun a14 =>
    obind (t_spec_l05Length a10 a14) fun c18 =>
    some (.inl (wr (w3 + c18), wr (w4 + 1)))
  else
    some (.inr w3)
def t_spec_l05Sum (s_ : Stroke) : Option Int :=
  obind (loopT (s0_spec_l05Sum s_) (0, 1)) fun q7 =>
  some q7
def tp_spec_l05Sum (s_p : Pt Stroke) : Option Int := obind s_p.get fun s_ => t_spec_l05Sum s_

def t_spec_StrokeLength (s_ : Stroke) : Option (Int × Int) :=
  obind (t_spec_l02Stroke s_) fun c5 =>
  bif !c5 then
    some (0, 1)
  else
    obind (t_spec_l05Sum s_) fun c7 =>
    some (c7, 0)

def t_spec_DrawArcsOf (code_ : Sl UInt8) : Option Stroke :=
  obind (t_spec_l05Stroke (⟨code_, 0, 0⟩ : l00Src)) fun c9 =>
  some c9.1

theorem ts_spec_DrawArcsOf (env : Nat → Contract) (he_spec_l00From : env n_spec_l00From = .pure (C1 fromA (fun q : Sl UInt8 => some q))) (he_spec_l05Stroke : env n_spec_l05Stroke = .gen (denFn Try.prog ev_spec_l05Stroke n_spec_l05Stroke)) (code_ : Sl UInt8) : Sim (denFn Try.prog env n_spec_DrawArcsOf [Sl.enc code_] []) (t_spec_DrawArcsOf code_) fun c p => release p.2 depth p.1 = some ((fun c : Stroke => AV.agg [rS c.points]) c) := by
  have O := Hold.nil []
  generalize hB : (⟨[], []⟩ : Base) = B at O
  clear hB
  rw [e_spec_DrawArcsOf]
  unfold t_spec_DrawArcsOf
  refine sim_box O (cs := [nilS]) (by first | rfl | simp) (fun o1 h2 O3 => ?_)
  replace O3 : Hold B h2 [(AV.ptr o1 1 0 0, .pt 1 [nilS])] := O3
  refine sim_src O3 he_spec_l00From (snapD_enc _ _) (by first | rfl | exact noRef_enc _) (fun o5 h6 O7 => ?_)
  replace O7 : Hold B h6 [(AV.ptr o1 1 0 0, .pt 1 [nilS]), (AV.ptr o5 1 0 0, .pt 3 [Sl.enc code_, iv 0, AV.sc (.int .u64 0)])] := O7
  refine sim_gen he_spec_l05Stroke (tg_spec_l05Stroke (⟨code_, 0, 0⟩ : l00Src) (O7.start (i := 1) rfl rfl)) (fun c9 v10 h11 hq12 => ?_)
  obtain ⟨x15, e_v10, O13⟩ := hq12
  dsimp only at e_v10
  subst v10
  have O14 : Hold B h11 [(AV.ptr o1 1 0 0, .pt 1 [nilS]), (AV.ptr o5 1 0 0, .pt 3 [Sl.enc c9.2.code, iv c9.2.pos, AV.sc (.int .u64 c9.2.seed)]), (x15, obS (c9.1.points : Sl Point))] := O7.merge (i := 1) rfl rfl O13
  refine sim_store O14 0 (cs' := [x15]) rfl (by first | rfl | simp [(O14.one (A := Point) (s := c9.1.points) 2 rfl).1, (O14.one (A := Point) (s := c9.1.points) 2 rfl).2]) (by simp) (by first | rfl | simp [(O14.one (A := Point) (s := c9.1.points) 2 rfl).1, (O14.one (A := Point) (s := c9.1.points) 2 rfl).2]) (by first | rfl | simp [splice, (O14.one (A := Point) (s := c9.1.points) 2 rfl).1, (O14.one (A := Point) (s := c9.1.points) 2 rfl).2]) (fun h17 O18 => ?_)
  replace O18 : Hold B h17 [(AV.ptr o1 1 0 0, .pt 1 [x15]), (AV.ptr o5 1 0 0, .pt 3 [Sl.enc c9.2.code, iv c9.2.pos, AV.sc (.int .u64 c9.2.seed)]), (x15, obS (c9.1.points : Sl Point))] := O18
  refine sim_retL (resL_c (v := AV.agg [x15]) (O18.ld 0 rfl true 1 0) (resL_nil _)) ?_
  dsimp only [pack]
  have O19 : Hold B h17 [(x15, obS (c9.1.points : Sl Point))] := O18.sel [2] (by decide) rfl
  exact sim_ret (release_of (by simp only [ids_tup, ids_aggD, ids_agg, ids_iv, ids_bv, ids_sv, ids_bt, ids_nilS, ids_enc, O19.idsD (A := Point) (s := c9.1.points) 0 rfl, List.map_append, List.map_nil, List.flatMap_cons, List.flatMap_nil, List.append_nil, List.nil_append]; simpa only [List.flatMap_cons, List.flatMap_nil, List.append_nil, List.nil_append] using O19.nd2) (by simp only [rel_tup, rel_aggD, rel_agg, rel_iv, rel_bv, rel_sv, rel_bt, rel_nilS, rel_enc, O19.relD (A := Point) (s := c9.1.points) 0 rfl, omapc, omapn, obind_sm] <;> rfl))
theorem tt_spec_DrawArcsOf : PureOK Try.prog n_spec_DrawArcsOf (C1 (fun c : Stroke => AV.agg [rS c.points]) t_spec_DrawArcsOf) := pureC1 (Econs tt_spec_l00From (EconsG (gen_of_den eo_spec_l05Stroke mixed hb_spec_l05Stroke) E0)) mixed hb_spec_DrawArcsOf fun code_ => ts_spec_DrawArcsOf _ (by simp [envL]) (by simp [envL]) code_

def t_impl_ArcsOf (s_ : Stroke) : Option ((Sl Int) × Int) :=
  obind (t_impl_ValidStroke s_) fun c5 =>
  bif !c5 then
    some ((none : Sl Int), 1)
  else
    obind (t_impl_arcsOf s_) fun c7 =>
    some (c7, 0)

theorem ts_impl_ArcsOf (env : Nat → Contract) (he_impl_ValidStroke : env n_impl_ValidStroke = .pure (C1 (fun c : Bool => enc c) t_impl_ValidStroke)) (he_impl_arcsOf : env n_impl_arcsOf = .pure (C1 (fun c : (Sl Int) => rS c) t_impl_arcsOf)) (s_ : Stroke) : Sim (denFn Try.prog env n_impl_ArcsOf [AV.agg [Sl.enc s_.points]] []) (t_impl_ArcsOf s_) fun c p => release p.2 depth p.1 = some ((fun c : (Sl Int) × Int => AV.tup [rS c.1, enc c.2]) c) := by
  have O := Hold.nil []
  generalize hB : (⟨[], []⟩ : Base) = B at O
  clear hB
  rw [e_impl_ArcsOf]
  unfold t_impl_ArcsOf
  refine sim_box O (cs := [Sl.enc s_.points]) (by first | rfl | simp) (fun o1 h2 O3 => ?_)
  replace O3 : Hold B h2 [(AV.ptr o1 1 0 0, .pt 1 [Sl.enc s_.points])] := O3
  refine sim_let (v := AV.agg [Sl.enc s_.points]) (O3.ld 0 rfl true 1 0) ?_
  refine sim_call1 he_impl_ValidStroke (snapD_nr _ s_ rfl) (fun c5 => ?_)
  refine sim_let2 (hand_plain (by rfl) _ _) ?_
  refine sim_let (v := bv (!c5)) (aUn_not _) ?_
  refine sim_cond (fun c6 => ?_) (fun c6 => ?_)
  · exact sim_ret (release_plain (by rfl) _)
  · refine sim_let (v := AV.agg [Sl.enc s_.points]) (O3.ld 0 rfl true 1 0) ?_
    refine sim_call1 he_impl_arcsOf (snapD_nr _ s_ rfl) (fun c7 => ?_)
    refine sim_hand (A := Int) O3 (fun x9 h10 O11 => ?_)
    replace O11 : Hold B h10 [(AV.ptr o1 1 0 0, .pt 1 [Sl.enc s_.points]), (x9, obS (c7 : Sl Int))] := O11
    have O12 : Hold B h10 [(x9, obS (c7 : Sl Int))] := O11.sel [1] (by decide) rfl
    exact sim_ret (release_of (by simp only [ids_tup, ids_aggD, ids_agg, ids_iv, ids_bv, ids_sv, ids_bt, ids_nilS, ids_enc, O12.idsD (A := Int) (s := c7) 0 rfl, List.map_append, List.map_nil, List.flatMap_cons, List.flatMap_nil, List.append_nil, List.nil_append]; simpa only [List.flatMap_cons, List.flatMap_nil, List.append_nil, List.nil_append] using O12.nd2) (by simp only [rel_tup, rel_aggD, rel_agg, rel_iv, rel_bv, rel_sv, rel_bt, rel_nilS, rel_enc, O12.relD (A := Int) (s := c7) 0 rfl, omapc, omapn, obind_sm] <;> rfl))
theorem tt_impl_ArcsOf : PureOK Try.prog n_impl_ArcsOf (C1 (fun c : (Sl Int) × Int => AV.tup [rS c.1, enc c.2]) t_impl_ArcsOf) := pureC1 (Econs tt_impl_ValidStroke (Econs tt_impl_arcsOf E0)) mixed hb_impl_ArcsOf fun s_ => ts_impl_ArcsOf _ (by simp [envL]) (by simp [envL]) s_

def s0_spec_l06Arcs (s_ : Stroke) : ((Sl Int) × Int) → Option (Sum ((Sl Int) × Int) (Sl Int)) := fun (w6, w9) =>
  bif decide (w9 < (((s_.points.getD []).length : Nat) : Int)) then
    obind (getI (w6.getD []) (wr (w9 - 1))) fun a16 =>
    obind (getI (s_.points.getD []) (wr (w9 - 1))) fun a20 =>
    obind (getI (s_.points.getD []) w9) fun a24 =>
    obind (t_spec_l05Length a20 a24) fun c28 =>
    obind (appO w6 ([wr (a16 + c28)] : List Int)) fun _ =>
    some (.inl ((appS w6 ([wr (a16 + c28)] : List Int)), wr (w9 + 1)))
  else
    some (.inr w6)
def t_spec_l06Arcs (s_ : Stroke) : Option (Sl Int) :=
  obind (loopT (s0_spec_l06Arcs s_) ((some ([0] : List Int)), 1)) fun q13 =>
  some q13
def tp_spec_l06Arcs (s_p : Pt Stroke) : Option (Sl Int) := obind s_p.get fun s_ => t_spec_l06Arcs s_

theorem tl0_spec_l06Arcs (env : Nat → Contract) {B : Base} (he_spec_l05Length : env n_spec_l05Length = .pure (C2 (fun c : Int => enc c) t_spec_l05Length)) (s_ : Stroke) (s_p : Pt Stroke) (hp_s_ : s_p.get = some s_) (x1 : AV)  {st : (Sl Int) × Int} {tm : TM} {h : Heap} (R : (fun (st : (Sl Int) × Int) tm h7 => match st with | (w6, w9) => ∃ z5, tm = [AV.fptr (Row.w Stroke) (s_p.tab.map Row.cells) s_p.i 0, und, nilS, z5, iv w9, x1, AV.top, AV.top, AV.top, AV.top, AV.top, AV.top, AV.top, AV.top, AV.top, AV.top, AV.top, AV.top, AV.top, AV.top, AV.top, AV.top, AV.top, AV.top, AV.top, AV.top, AV.top, AV.top, AV.top, AV.top, AV.top, AV.top, AV.top, AV.top, AV.top, AV.top, AV.top, AV.top, AV.top, AV.top, und] ∧ Hold B h7 [(z5, obS (w6 : Sl Int))]) st tm h) : Sim (loopP hm0_spec_l06Arcs xm0_spec_l06Arcs (lb0_spec_l06Arcs env) tm h) (loopT (s0_spec_l06Arcs s_) st) (fun (q : Sl Int) (r : Res) => match q with | q13 => ∃ (q14 : Int) (z12 : AV) (h10 : Heap), r = (.exit 0, [AV.fptr (Row.w Stroke) (s_p.tab.map Row.cells) s_p.i 0, und, nilS, z12, iv q14, x1, AV.top, AV.top, AV.top, AV.top, AV.top, AV.top, AV.top, AV.top, AV.top, AV.top, AV.top, AV.top, AV.top, AV.top, AV.top, AV.top, AV.top, AV.top, AV.top, AV.top, AV.top, AV.top, AV.top, AV.top, AV.top, AV.top, AV.top, AV.top, AV.top, AV.top, AV.top, AV.top, AV.top, AV.top, und], h10) ∧ Hold B h10 [(z12, obS (q13 : Sl Int))]) := by
  refine loop_sim (Rel := fun (st : (Sl Int) × Int) tm h7 => match st with | (w6, w9) => ∃ z5, tm = [AV.fptr (Row.w Stroke) (s_p.tab.map Row.cells) s_p.i 0, und, nilS, z5, iv w9, x1, AV.top, AV.top, AV.top, AV.top, AV.top, AV.top, AV.top, AV.top, AV.top, AV.top, AV.top, AV.top, AV.top, AV.top, AV.top, AV.top, AV.top, AV.top, AV.top, AV.top, AV.top, AV.top, AV.top, AV.top, AV.top, AV.top, AV.top, AV.top, AV.top, AV.top, AV.top, AV.top, AV.top, AV.top, und] ∧ Hold B h7 [(z5, obS (w6 : Sl Int))]) (fun st tm h7 R => ?_) R
  obtain ⟨w6, w9⟩ := st
  obtain ⟨z5, rfl, O8⟩ := R
  rw [e_lb0_spec_l06Arcs]
  unfold s0_spec_l06Arcs
  dsimp only
  refine sim_let (v := AV.fptr (Row.w Stroke) (s_p.tab.map Row.cells) s_p.i 0) rfl ?_
  refine sim_let (v := AV.fptr (Row.w Stroke) (s_p.tab.map Row.cells) s_p.i 0) rfl ?_
  refine sim_let (v := Sl.enc s_.points) (ld_pt hp_s_ false 1 0) ?_
  refine sim_let (v := iv (((s_.points.getD []).length : Nat) : Int)) (Tab.enc h7 s_.points).len ?_
  refine sim_let (v := bv (decide (w9 < (((s_.points.getD []).length : Nat) : Int)))) (aBin_lss _ _) ?_
  refine sim_cond (fun c15 => ?_) (fun c15 => ?_)
  · refine sim_let (v := iv (wr (w9 - 1))) (aBin_sub _ _) ?_
    refine sim_get (O8.tab (A := Int) (s := w6) 0 rfl) (fun m17 a16 hi18 hm19 => ?_)
    refine sim_let (v := iv a16) ((O8.tab (A := Int) (s := w6) 0 rfl).ld hm19 false 1 0) ?_
    refine sim_let (v := AV.fptr (Row.w Stroke) (s_p.tab.map Row.cells) s_p.i 0) rfl ?_
    refine sim_let (v := AV.fptr (Row.w Stroke) (s_p.tab.map Row.cells) s_p.i 0) rfl ?_
    refine sim_let (v := Sl.enc s_.points) (ld_pt hp_s_ false 1 0) ?_
    refine sim_let (v := iv (wr (w9 - 1))) (aBin_sub _ _) ?_
    refine sim_get (Tab.enc h7 s_.points) (fun m21 a20 hi22 hm23 => ?_)
    refine sim_let (v := AV.agg [iv a20.x, iv a20.y, iv a20.t]) ((Tab.enc h7 s_.points).ld hm23 true 3 0) ?_
    refine sim_let (v := AV.fptr (Row.w Stroke) (s_p.tab.map Row.cells) s_p.i 0) rfl ?_
    refine sim_let (v := AV.fptr (Row.w Stroke) (s_p.tab.map Row.cells) s_p.i 0) rfl ?_
    refine sim_let (v := Sl.enc s_.points) (ld_pt hp_s_ false 1 0) ?_
    refine sim_get (Tab.enc h7 s_.points) (fun m25 a24 hi26 hm27 => ?_)
    refine sim_let (v := AV.agg [iv a24.x, iv a24.y, iv a24.t]) ((Tab.enc h7 s_.points).ld hm27 true 3 0) ?_
    refine sim_callQ2 he_spec_l05Length (snapD_nr _ a20 rfl) (snapD_nr _ a24 rfl) (fun c28 => ?_)
    refine sim_let2 (hand_plain (by rfl) _ _) ?_
    refine sim_let (v := iv (wr (a16 + c28))) (aBin_add _ _) ?_
    refine sim_build (A := Int) O8 ([wr (a16 + c28)] : List Int) rfl (by first | rfl | simp [aFillRows, zrows]) rfl (fun x29 h30 O31 => ?_)
    replace O31 : Hold B h30 [(z5, obS (w6 : Sl Int)), (x29, obS ((some ([wr (a16 + c28)] : List Int)) : Sl Int))] := O31
    refine sim_append (A := Int) (s := w6) O31 0 ([wr (a16 + c28)] : List Int) rfl (O31.src (A := Int) (s := (some ([wr (a16 + c28)] : List Int))) 1 rfl) (by decide) (fun x34 h35 O36 => ?_)
    replace O36 : Hold B h35 [(x34, obS ((appS w6 ([wr (a16 + c28)] : List Int)) : Sl Int)), (x29, obS ((some ([wr (a16 + c28)] : List Int)) : Sl Int))] := O36
    have O38 : Hold B h35 [(x34, obS ((appS w6 ([wr (a16 + c28)] : List Int)) : Sl Int))] := O36.sel [0] (by decide) rfl
    refine sim_let (v := iv (wr (w9 + 1))) (aBin_add _ _) ?_
    exact sim_ret ⟨rfl, _, rfl, O38⟩
  · exact sim_ret ⟨nofun, _, _, _, rfl, O8⟩
theorem ts_spec_l06Arcs (env : Nat → Contract) (he_spec_l05Length : env n_spec_l05Length = .pure (C2 (fun c : Int => enc c) t_spec_l05Length)) (s_ : Stroke) {s_p : Pt Stroke} (hp_s_ : s_p.get = some s_) : Sim (denFn Try.prog env n_spec_l06Arcs [AV.fptr (Row.w Stroke) (s_p.tab.map Row.cells) s_p.i 0] []) (t_spec_l06Arcs s_) fun c p => release p.2 depth p.1 = some ((fun c : (Sl Int) => rS c) c) := by
  have O := Hold.nil []
  generalize hB : (⟨[], []⟩ : Base) = B at O
  clear hB
  rw [e_spec_l06Arcs]
  unfold t_spec_l06Arcs
  refine sim_build (A := Int) O ([0] : List Int) rfl (by first | rfl | simp [aFillRows, zrows]) rfl (fun x1 h2 O3 => ?_)
  replace O3 : Hold B h2 [(x1, obS ((some ([0] : List Int)) : Sl Int))] := O3
  refine sim_bind ((tl0_spec_l06Arcs env he_spec_l05Length s_ s_p hp_s_ x1) ⟨_, rfl, O3⟩) (fun qq42 r hq => ?_)
  revert hq
  revert qq42
  intro q13 hq
  obtain ⟨q14, z12, h10, rfl, O11⟩ := hq
  rw [e_lk0x0_spec_l06Arcs]
  exact sim_ret (O11.rel (A := Int) (s := q13) 0 rfl)
theorem tt_spec_l06Arcs : PureOK Try.prog n_spec_l06Arcs (C1 (fun c : (Sl Int) => rS c) tp_spec_l06Arcs) := pureC1 (Econs tt_spec_l05Length E0) mixed hb_spec_l06Arcs fun s_p => sim_getP fun s_ hp_s_ => ts_spec_l06Arcs _ (by simp [envL]) s_ hp_s_

def t_spec_ArcsOf (s_ : Stroke) : Option ((Sl Int) × Int) :=
  obind (t_spec_l02Stroke s_) fun c5 =>
  bif !c5 then
    some ((none : Sl Int), 1)
  else
    obind (t_spec_l06Arcs s_) fun c7 =>
    some (c7, 0)

theorem ts_spec_ArcsOf (env : Nat → Contract) (he_spec_l02Stroke : env n_spec_l02Stroke = .pure (C1 (fun c : Bool => enc c) tp_spec_l02Stroke)) (he_spec_l06Arcs : env n_spec_l06Arcs = .pure (C1 (fun c : (Sl Int) => rS c) tp_spec_l06Arcs)) (s_ : Stroke) : Sim (denFn Try.prog env n_spec_ArcsOf [AV.agg [Sl.enc s_.points]] []) (t_spec_ArcsOf s_) fun c p => release p.2 depth p.1 = some ((fun c : (Sl Int) × Int => AV.tup [rS c.1, enc c.2]) c) := by
  have O := Hold.nil []
  generalize hB : (⟨[], []⟩ : Base) = B at O
  clear hB
  rw [e_spec_ArcsOf]
  unfold t_spec_ArcsOf
  refine sim_box O (cs := [Sl.enc s_.points]) (by first | rfl | simp) (fun o1 h2 O3 => ?_)
  replace O3 : Hold B h2 [(AV.ptr o1 1 0 0, .pt 1 [Sl.enc s_.points])] := O3
  refine sim_eqO (y' := tp_spec_l02Stroke ⟨[s_], 0⟩) (by simp only [tp_spec_l02Stroke, get_pt1, obind_sm]) ?_
  refine sim_call1 he_spec_l02Stroke (O3.snapRn 0 rfl s_ rfl rfl) (fun c5 => ?_)
  refine sim_let2 (hand_plain (by rfl) _ _) ?_
  refine sim_let (v := bv (!c5)) (aUn_not _) ?_
  refine sim_cond (fun c6 => ?_) (fun c6 => ?_)
  · exact sim_ret (release_plain (by rfl) _)
  · refine sim_eqO (y' := tp_spec_l06Arcs ⟨[s_], 0⟩) (by simp only [tp_spec_l06Arcs, get_pt1, obind_sm]) ?_
    refine sim_call1 he_spec_l06Arcs (O3.snapRn 0 rfl s_ rfl rfl) (fun c7 => ?_)
    refine sim_hand (A := Int) O3 (fun x9 h10 O11 => ?_)
    replace O11 : Hold B h10 [(AV.ptr o1 1 0 0, .pt 1 [Sl.enc s_.points]), (x9, obS (c7 : Sl Int))] := O11
    have O12 : Hold B h10 [(x9, obS (c7 : Sl Int))] := O11.sel [1] (by decide) rfl
    exact sim_ret (release_of (by simp only [ids_tup, ids_aggD, ids_agg, ids_iv, ids_bv, ids_sv, ids_bt, ids_nilS, ids_enc, O12.idsD (A := Int) (s := c7) 0 rfl, List.map_append, List.map_nil, List.flatMap_cons, List.flatMap_nil, List.append_nil, List.nil_append]; simpa only [List.flatMap_cons, List.flatMap_nil, List.append_nil, List.nil_append] using O12.nd2) (by simp only [rel_tup, rel_aggD, rel_agg, rel_iv, rel_bv, rel_sv, rel_bt, rel_nilS, rel_enc, O12.relD (A := Int) (s := c7) 0 rfl, omapc, omapn, obind_sm] <;> rfl))
theorem tt_spec_ArcsOf : PureOK Try.prog n_spec_ArcsOf (C1 (fun c : (Sl Int) × Int => AV.tup [rS c.1, enc c.2]) t_spec_ArcsOf) := pureC1 (Econs tt_spec_l02Stroke (Econs tt_spec_l06Arcs E0)) mixed hb_spec_ArcsOf fun s_ => ts_spec_ArcsOf _ (by simp [envL]) (by simp [envL]) s_

def t_impl_spotOf (p_ : Point) : Option Spot :=
  some (⟨p_.x, p_.y⟩ : Spot)

theorem ts_impl_spotOf (env : Nat → Contract)  (p_ : Point) : Sim (denFn Try.prog env n_impl_spotOf [AV.agg [iv p_.x, iv p_.y, iv p_.t]] []) (t_impl_spotOf p_) fun c p => release p.2 depth p.1 = some ((fun c : Spot => enc c) c) := by
  have O := Hold.nil []
  generalize hB : (⟨[], []⟩ : Base) = B at O
  clear hB
  rw [e_impl_spotOf]
  unfold t_impl_spotOf
  refine sim_box O (cs := [iv p_.x, iv p_.y, iv p_.t]) (by first | rfl | simp) (fun o1 h2 O3 => ?_)
  replace O3 : Hold B h2 [(AV.ptr o1 1 0 0, .pt 3 [iv p_.x, iv p_.y, iv p_.t])] := O3
  refine sim_box O3 (cs := [iv 0, iv 0]) (by first | rfl | simp) (fun o5 h6 O7 => ?_)
  replace O7 : Hold B h6 [(AV.ptr o1 1 0 0, .pt 3 [iv p_.x, iv p_.y, iv p_.t]), (AV.ptr o5 1 0 0, .pt 2 [iv 0, iv 0])] := O7
  refine sim_let (v := AV.ptr o1 1 0 0) rfl ?_
  refine sim_let (v := iv p_.x) (O7.ld 0 rfl false 1 0) ?_
  refine sim_let (v := AV.ptr o1 1 0 1) rfl ?_
  refine sim_let (v := iv p_.y) (O7.ld 0 rfl false 1 1) ?_
  refine sim_let (v := AV.agg [iv p_.x, iv p_.y]) (by first | rfl | simp [aBuild, aFill, splice]) ?_
  refine sim_store O7 1 (cs' := [iv p_.x, iv p_.y]) rfl (by first | rfl | simp) (by simp) (by first | rfl | simp) (by first | rfl | simp [splice]) (fun h9 O10 => ?_)
  replace O10 : Hold B h9 [(AV.ptr o1 1 0 0, .pt 3 [iv p_.x, iv p_.y, iv p_.t]), (AV.ptr o5 1 0 0, .pt 2 [iv p_.x, iv p_.y])] := O10
  refine sim_retL (resL_c (v := AV.agg [iv p_.x, iv p_.y]) (O10.ld 1 rfl true 2 0) (resL_nil _)) ?_
  dsimp only [pack]
  exact sim_ret (release_plain (by rfl) _)
theorem tt_impl_spotOf : PureOK Try.prog n_impl_spotOf (C1 (fun c : Spot => enc c) t_impl_spotOf) := pureC1 E0 mixed hb_impl_spotOf fun p_ => ts_impl_spotOf _  p_

def s0_impl_SpotsOf (s_ : Stroke) : ((Sl Spot) × Int) → Option (Sum ((Sl Spot) × Int) (Sl Spot)) := fun (w10, w13) =>
  bif decide (w13 < (((s_.points.getD []).length : Nat) : Int)) then
    obind (getI (s_.points.getD []) w13) fun a21 =>
    obind (t_impl_spotOf a21) fun c31 =>
    obind (appO w10 ([c31] : List Spot)) fun _ =>
    some (.inl ((appS w10 ([c31] : List Spot)), wr (w13 + 1)))
  else
    some (.inr w10)
def t_impl_SpotsOf (s_ : Stroke) : Option ((Sl Spot) × Int) :=
  obind (t_impl_ValidStroke s_) fun c5 =>
  bif !c5 then
    some ((none : Sl Spot), 1)
  else
    obind (loopT (s0_impl_SpotsOf s_) ((none : Sl Spot), 0)) fun q17 =>
    some (q17, 0)

theorem tl0_impl_SpotsOf (env : Nat → Contract) {B : Base} (he_impl_ValidStroke : env n_impl_ValidStroke = .pure (C1 (fun c : Bool => enc c) t_impl_ValidStroke)) (he_impl_spotOf : env n_impl_spotOf = .pure (C1 (fun c : Spot => enc c) t_impl_spotOf)) (s_ : Stroke) (o1 : Nat) (c5 : Bool)  {st : (Sl Spot) × Int} {tm : TM} {h : Heap} (R : (fun (st : (Sl Spot) × Int) tm h11 => match st with | (w10, w13) => ∃ z9, tm = [AV.agg [Sl.enc s_.points], AV.ptr o1 1 0 0, nilS, iv 0, z9, und, AV.top, AV.agg [Sl.enc s_.points], bv c5, bv (!c5), AV.ptr o1 1 0 0, Sl.enc s_.points, iv (((s_.points.getD []).length : Nat) : Int), iv w13, AV.top, AV.top, AV.top, AV.top, AV.top, AV.top, AV.top, AV.top, AV.top, und] ∧ Hold B h11 [(AV.ptr o1 1 0 0, .pt 1 [Sl.enc s_.points]), (z9, obS (w10 : Sl Spot))]) st tm h) : Sim (loopP hm0_impl_SpotsOf xm0_impl_SpotsOf (lb0_impl_SpotsOf env) tm h) (loopT (s0_impl_SpotsOf s_) st) (fun (q : Sl Spot) (r : Res) => match q with | q17 => ∃ (z16 : AV) (z18 : AV) (h14 : Heap), r = (.exit 0, [AV.agg [Sl.enc s_.points], AV.ptr o1 1 0 0, nilS, iv 0, z16, und, z18, AV.agg [Sl.enc s_.points], bv c5, bv (!c5), AV.ptr o1 1 0 0, Sl.enc s_.points, iv (((s_.points.getD []).length : Nat) : Int), AV.top, AV.top, AV.top, AV.top, AV.top, AV.top, AV.top, AV.top, AV.top, AV.top, und], h14) ∧ Hold B h14 [(AV.ptr o1 1 0 0, .pt 1 [Sl.enc s_.points]), (z16, obS (q17 : Sl Spot))]) := by
  refine loop_sim (Rel := fun (st : (Sl Spot) × Int) tm h11 => match st with | (w10, w13) => ∃ z9, tm = [AV.agg [Sl.enc s_.points], AV.ptr o1 1 0 0, nilS, iv 0, z9, und, AV.top, AV.agg [Sl.enc s_.points], bv c5, bv (!c5), AV.ptr o1 1 0 0, Sl.enc s_.points, iv (((s_.points.getD []).length : Nat) : Int), iv w13, AV.top, AV.top, AV.top, AV.top, AV.top, AV.top, AV.top, AV.top, AV.top, und] ∧ Hold B h11 [(AV.ptr o1 1 0 0, .pt 1 [Sl.enc s_.points]), (z9, obS (w10 : Sl Spot))]) (fun st tm h11 R => ?_) R
  obtain ⟨w10, w13⟩ := st
  obtain ⟨z9, rfl, O12⟩ := R
  rw [e_lb0_impl_SpotsOf]
  unfold s0_impl_SpotsOf
  dsimp only
  refine sim_let (v := bv (decide (w13 < (((s_.points.getD []).length : Nat) : Int)))) (aBin_lss _ _) ?_
  refine sim_cond (fun c20 => ?_) (fun c20 => ?_)
  · refine sim_get (Tab.enc h11 s_.points) (fun m22 a21 hi23 hm24 => ?_)
    refine sim_let (v := AV.agg [iv a21.x, iv a21.y, iv a21.t]) ((Tab.enc h11 s_.points).ld hm24 true 3 0) ?_
    refine sim_box O12 (cs := [iv 0, iv 0, iv 0]) (by first | rfl | simp) (fun o25 h26 O27 => ?_)
    replace O27 : Hold B h26 [(AV.ptr o1 1 0 0, .pt 1 [Sl.enc s_.points]), (z9, obS (w10 : Sl Spot)), (AV.ptr o25 1 0 0, .pt 3 [iv 0, iv 0, iv 0])] := O27
    refine sim_store O27 2 (cs' := [iv a21.x, iv a21.y, iv a21.t]) rfl (by first | rfl | simp) (by simp) (by first | rfl | simp) (by first | rfl | simp [splice]) (fun h29 O30 => ?_)
    replace O30 : Hold B h29 [(AV.ptr o1 1 0 0, .pt 1 [Sl.enc s_.points]), (z9, obS (w10 : Sl Spot)), (AV.ptr o25 1 0 0, .pt 3 [iv a21.x, iv a21.y, iv a21.t])] := O30
    refine sim_let (v := AV.agg [iv a21.x, iv a21.y, iv a21.t]) (O30.ld 2 rfl true 3 0) ?_
    refine sim_call1 he_impl_spotOf (snapD_nr _ a21 rfl) (fun c31 => ?_)
    refine sim_let2 (hand_plain (by rfl) _ _) ?_
    refine sim_build (A := Spot) O30 ([c31] : List Spot) rfl (by first | rfl | simp [aFillRows, zrows]) rfl (fun x32 h33 O34 => ?_)
    replace O34 : Hold B h33 [(AV.ptr o1 1 0 0, .pt 1 [Sl.enc s_.points]), (z9, obS (w10 : Sl Spot)), (AV.ptr o25 1 0 0, .pt 3 [iv a21.x, iv a21.y, iv a21.t]), (x32, obS ((some ([c31] : List Spot)) : Sl Spot))] := O34
    refine sim_append (A := Spot) (s := w10) O34 1 ([c31] : List Spot) rfl (O34.src (A := Spot) (s := (some ([c31] : List Spot))) 3 rfl) (by decide) (fun x37 h38 O39 => ?_)
    replace O39 : Hold B h38 [(AV.ptr o1 1 0 0, .pt 1 [Sl.enc s_.points]), (x37, obS ((appS w10 ([c31] : List Spot)) : Sl Spot)), (AV.ptr o25 1 0 0, .pt 3 [iv a21.x, iv a21.y, iv a21.t]), (x32, obS ((some ([c31] : List Spot)) : Sl Spot))] := O39
    have O41 : Hold B h38 [(AV.ptr o1 1 0 0, .pt 1 [Sl.enc s_.points]), (x37, obS ((appS w10 ([c31] : List Spot)) : Sl Spot)), (AV.ptr o25 1 0 0, .pt 3 [iv a21.x, iv a21.y, iv a21.t])] := O39.sel [0, 1, 2] (by decide) rfl
    refine sim_let (v := iv (wr (w13 + 1))) (aBin_add _ _) ?_
    have O42 : Hold B h38 [(AV.ptr o1 1 0 0, .pt 1 [Sl.enc s_.points]), (x37, obS ((appS w10 ([c31] : List Spot)) : Sl Spot))] := O41.sel [0, 1] (by decide) rfl
    exact sim_ret ⟨rfl, _, rfl, O42⟩
  · exact sim_ret ⟨nofun, _, _, _, rfl, O12⟩
theorem ts_impl_SpotsOf (env : Nat → Contract) (he_impl_ValidStroke : env n_impl_ValidStroke = .pure (C1 (fun c : Bool => enc c) t_impl_ValidStroke)) (he_impl_spotOf : env n_impl_spotOf = .pure (C1 (fun c : Spot => enc c) t_impl_spotOf)) (s_ : Stroke) : Sim (denFn Try.prog env n_impl_SpotsOf [AV.agg [Sl.enc s_.points]] []) (t_impl_SpotsOf s_) fun c p => release p.2 depth p.1 = some ((fun c : (Sl Spot) × Int => AV.tup [rS c.1, enc c.2]) c) := by
  have O := Hold.nil []
  generalize hB : (⟨[], []⟩ : Base) = B at O
  clear hB
  rw [e_impl_SpotsOf]
  unfold t_impl_SpotsOf
  refine sim_box O (cs := [Sl.enc s_.points]) (by first | rfl | simp) (fun o1 h2 O3 => ?_)
  replace O3 : Hold B h2 [(AV.ptr o1 1 0 0, .pt 1 [Sl.enc s_.points])] := O3
  refine sim_let (v := AV.agg [Sl.enc s_.points]) (O3.ld 0 rfl true 1 0) ?_
  refine sim_call1 he_impl_ValidStroke (snapD_nr _ s_ rfl) (fun c5 => ?_)
  refine sim_let2 (hand_plain (by rfl) _ _) ?_
  refine sim_let (v := bv (!c5)) (aUn_not _) ?_
  refine sim_cond (fun c6 => ?_) (fun c6 => ?_)
  · exact sim_ret (release_plain (by rfl) _)
  · refine sim_let (v := AV.ptr o1 1 0 0) rfl ?_
    refine sim_let (v := Sl.enc s_.points) (O3.ld 0 rfl false 1 0) ?_
    refine sim_let (v := iv (((s_.points.getD []).length : Nat) : Int)) (Tab.enc h2 s_.points).len ?_
    have O7 : Hold B h2 [(AV.ptr o1 1 0 0, .pt 1 [Sl.enc s_.points]), (nilS, obS ((none : Sl Spot) : Sl Spot))] := O3.addnil
    refine sim_bind ((tl0_impl_SpotsOf env he_impl_ValidStroke he_impl_spotOf s_ o1 c5) ⟨_, rfl, O7⟩) (fun qq45 r hq => ?_)
    revert hq
    revert qq45
    intro q17 hq
    obtain ⟨z16, z18, h14, rfl, O15⟩ := hq
    rw [e_lk0x0_impl_SpotsOf]
    have O19 : Hold B h14 [(z16, obS (q17 : Sl Spot))] := O15.sel [1] (by decide) rfl
    exact sim_ret (release_of (by simp only [ids_tup, ids_aggD, ids_agg, ids_iv, ids_bv, ids_sv, ids_bt, ids_nilS, ids_enc, O19.idsD (A := Spot) (s := q17) 0 rfl, List.map_append, List.map_nil, List.flatMap_cons, List.flatMap_nil, List.append_nil, List.nil_append]; simpa only [List.flatMap_cons, List.flatMap_nil, List.append_nil, List.nil_append] using O19.nd2) (by simp only [rel_tup, rel_aggD, rel_agg, rel_iv, rel_bv, rel_sv, rel_bt, rel_nilS, rel_enc, O19.relD (A := Spot) (s := q17) 0 rfl, omapc, omapn, obind_sm] <;> rfl))
theorem tt_impl_SpotsOf : PureOK Try.prog n_impl_SpotsOf (C1 (fun c : (Sl Spot) × Int => AV.tup [rS c.1, enc c.2]) t_impl_SpotsOf) := pureC1 (Econs tt_impl_ValidStroke (Econs tt_impl_spotOf E0)) mixed hb_impl_SpotsOf fun s_ => ts_impl_SpotsOf _ (by simp [envL]) (by simp [envL]) s_

def t_spec_l06Spot (p_ : Point) : Option Spot :=
  some (⟨p_.x, p_.y⟩ : Spot)

theorem ts_spec_l06Spot (env : Nat → Contract)  (p_ : Point) : Sim (denFn Try.prog env n_spec_l06Spot [AV.agg [iv p_.x, iv p_.y, iv p_.t]] []) (t_spec_l06Spot p_) fun c p => release p.2 depth p.1 = some ((fun c : Spot => enc c) c) := by
  have O := Hold.nil []
  generalize hB : (⟨[], []⟩ : Base) = B at O
  clear hB
  rw [e_spec_l06Spot]
  unfold t_spec_l06Spot
  refine sim_box O (cs := [iv p_.x, iv p_.y, iv p_.t]) (by first | rfl | simp) (fun o1 h2 O3 => ?_)
  replace O3 : Hold B h2 [(AV.ptr o1 1 0 0, .pt 3 [iv p_.x, iv p_.y, iv p_.t])] := O3
  refine sim_box O3 (cs := [iv 0, iv 0]) (by first | rfl | simp) (fun o5 h6 O7 => ?_)
  replace O7 : Hold B h6 [(AV.ptr o1 1 0 0, .pt 3 [iv p_.x, iv p_.y, iv p_.t]), (AV.ptr o5 1 0 0, .pt 2 [iv 0, iv 0])] := O7
  refine sim_let (v := AV.ptr o1 1 0 0) rfl ?_
  refine sim_let (v := iv p_.x) (O7.ld 0 rfl false 1 0) ?_
  refine sim_let (v := AV.ptr o1 1 0 1) rfl ?_
  refine sim_let (v := iv p_.y) (O7.ld 0 rfl false 1 1) ?_
  refine sim_let (v := AV.agg [iv p_.x, iv p_.y]) (by first | rfl | simp [aBuild, aFill, splice]) ?_
  refine sim_store O7 1 (cs' := [iv p_.x, iv p_.y]) rfl (by first | rfl | simp) (by simp) (by first | rfl | simp) (by first | rfl | simp [splice]) (fun h9 O10 => ?_)
  replace O10 : Hold B h9 [(AV.ptr o1 1 0 0, .pt 3 [iv p_.x, iv p_.y, iv p_.t]), (AV.ptr o5 1 0 0, .pt 2 [iv p_.x, iv p_.y])] := O10
  refine sim_retL (resL_c (v := AV.agg [iv p_.x, iv p_.y]) (O10.ld 1 rfl true 2 0) (resL_nil _)) ?_
  dsimp only [pack]
  exact sim_ret (release_plain (by rfl) _)
theorem tt_spec_l06Spot : PureOK Try.prog n_spec_l06Spot (C1 (fun c : Spot => enc c) t_spec_l06Spot) := pureC1 E0 mixed hb_spec_l06Spot fun p_ => ts_spec_l06Spot _  p_

def s0_spec_SpotsOf (s_ : Stroke) : ((Sl Spot) × Int) → Option (Sum ((Sl Spot) × Int) (Sl Spot)) := fun (w12, w15) =>
  bif decide (w15 < (((s_.points.getD []).length : Nat) : Int)) then
    obind (getI (s_.points.getD []) w15) fun a23 =>
    obind (t_spec_l06Spot a23) fun c27 =>
    obind (appO w12 ([c27] : List Spot)) fun _ =>
    some (.inl ((appS w12 ([c27] : List Spot)), wr (w15 + 1)))
  else
    some (.inr w12)
def t_spec_SpotsOf (s_ : Stroke) : Option ((Sl Spot) × Int) :=
  obind (t_spec_l02Stroke s_) fun c5 =>
  bif !c5 then
    some ((none : Sl Spot), 1)
  else
    obind (loopT (s0_spec_SpotsOf s_) ((some ([] : List Spot)), 0)) fun q19 =>
    some (q19, 0)

theorem tl0_spec_SpotsOf (env : Nat → Contract) {B : Base} (he_spec_l02Stroke : env n_spec_l02Stroke = .pure (C1 (fun c : Bool => enc c) tp_spec_l02Stroke)) (he_spec_l06Spot : env n_spec_l06Spot = .pure (C1 (fun c : Spot => enc c) t_spec_l06Spot)) (s_ : Stroke) (o1 : Nat) (c5 : Bool) (x7 : AV)  {st : (Sl Spot) × Int} {tm : TM} {h : Heap} (R : (fun (st : (Sl Spot) × Int) tm h13 => match st with | (w12, w15) => ∃ z11, tm = [AV.agg [Sl.enc s_.points], AV.ptr o1 1 0 0, nilS, iv 0, z11, iv w15, bv c5, bv (!c5), x7, AV.top, AV.top, AV.top, AV.top, AV.top, AV.top, AV.top, AV.top, AV.top, AV.top, AV.top, AV.top, AV.top, AV.top, AV.top, AV.top, und] ∧ Hold B h13 [(AV.ptr o1 1 0 0, .pt 1 [Sl.enc s_.points]), (z11, obS (w12 : Sl Spot))]) st tm h) : Sim (loopP hm0_spec_SpotsOf xm0_spec_SpotsOf (lb0_spec_SpotsOf env) tm h) (loopT (s0_spec_SpotsOf s_) st) (fun (q : Sl Spot) (r : Res) => match q with | q19 => ∃ (q20 : Int) (z18 : AV) (h16 : Heap), r = (.exit 0, [AV.agg [Sl.enc s_.points], AV.ptr o1 1 0 0, nilS, iv 0, z18, iv q20, bv c5, bv (!c5), x7, AV.top, AV.top, AV.top, AV.top, AV.top, AV.top, AV.top, AV.top, AV.top, AV.top, AV.top, AV.top, AV.top, AV.top, AV.top, AV.top, und], h16) ∧ Hold B h16 [(AV.ptr o1 1 0 0, .pt 1 [Sl.enc s_.points]), (z18, obS (q19 : Sl Spot))]) := by
  refine loop_sim (Rel := fun (st : (Sl Spot) × Int) tm h13 => match st with | (w12, w15) => ∃ z11, tm = [AV.agg [Sl.enc s_.points], AV.ptr o1 1 0 0, nilS, iv 0, z11, iv w15, bv c5, bv (!c5), x7, AV.top, AV.top, AV.top, AV.top, AV.top, AV.top, AV.top, AV.top, AV.top, AV.top, AV.top, AV.top, AV.top, AV.top, AV.top, AV.top, und] ∧ Hold B h13 [(AV.ptr o1 1 0 0, .pt 1 [Sl.enc s_.points]), (z11, obS (w12 : Sl Spot))]) (fun st tm h13 R => ?_) R
  obtain ⟨w12, w15⟩ := st
  obtain ⟨z11, rfl, O14⟩ := R
  rw [e_lb0_spec_SpotsOf]
  unfold s0_spec_SpotsOf
  dsimp only
  refine sim_let (v := AV.ptr o1 1 0 0) rfl ?_
  refine sim_let (v := Sl.enc s_.points) (O14.ld 0 rfl false 1 0) ?_
  refine sim_let (v := iv (((s_.points.getD []).length : Nat) : Int)) (Tab.enc h13 s_.points).len ?_
  refine sim_let (v := bv (decide (w15 < (((s_.points.getD []).length : Nat) : Int)))) (aBin_lss _ _) ?_
  refine sim_cond (fun c22 => ?_) (fun c22 => ?_)
  · refine sim_let (v := AV.ptr o1 1 0 0) rfl ?_
    refine sim_let (v := Sl.enc s_.points) (O14.ld 0 rfl false 1 0) ?_
    refine sim_get (Tab.enc h13 s_.points) (fun m24 a23 hi25 hm26 => ?_)
    refine sim_let (v := AV.agg [iv a23.x, iv a23.y, iv a23.t]) ((Tab.enc h13 s_.points).ld hm26 true 3 0) ?_
    refine sim_call1 he_spec_l06Spot (snapD_nr _ a23 rfl) (fun c27 => ?_)
    refine sim_let2 (hand_plain (by rfl) _ _) ?_
    refine sim_build (A := Spot) O14 ([c27] : List Spot) rfl (by first | rfl | simp [aFillRows, zrows]) rfl (fun x28 h29 O30 => ?_)
    replace O30 : Hold B h29 [(AV.ptr o1 1 0 0, .pt 1 [Sl.enc s_.points]), (z11, obS (w12 : Sl Spot)), (x28, obS ((some ([c27] : List Spot)) : Sl Spot))] := O30
    refine sim_append (A := Spot) (s := w12) O30 1 ([c27] : List Spot) rfl (O30.src (A := Spot) (s := (some ([c27] : List Spot))) 2 rfl) (by decide) (fun x33 h34 O35 => ?_)
    replace O35 : Hold B h34 [(AV.ptr o1 1 0 0, .pt 1 [Sl.enc s_.points]), (x33, obS ((appS w12 ([c27] : List Spot)) : Sl Spot)), (x28, obS ((some ([c27] : List Spot)) : Sl Spot))] := O35
    have O37 : Hold B h34 [(AV.ptr o1 1 0 0, .pt 1 [Sl.enc s_.points]), (x33, obS ((appS w12 ([c27] : List Spot)) : Sl Spot))] := O35.sel [0, 1] (by decide) rfl
    refine sim_let (v := iv (wr (w15 + 1))) (aBin_add _ _) ?_
    exact sim_ret ⟨rfl, _, rfl, O37⟩
  · exact sim_ret ⟨nofun, _, _, _, rfl, O14⟩
theorem ts_spec_SpotsOf (env : Nat → Contract) (he_spec_l02Stroke : env n_spec_l02Stroke = .pure (C1 (fun c : Bool => enc c) tp_spec_l02Stroke)) (he_spec_l06Spot : env n_spec_l06Spot = .pure (C1 (fun c : Spot => enc c) t_spec_l06Spot)) (s_ : Stroke) : Sim (denFn Try.prog env n_spec_SpotsOf [AV.agg [Sl.enc s_.points]] []) (t_spec_SpotsOf s_) fun c p => release p.2 depth p.1 = some ((fun c : (Sl Spot) × Int => AV.tup [rS c.1, enc c.2]) c) := by
  have O := Hold.nil []
  generalize hB : (⟨[], []⟩ : Base) = B at O
  clear hB
  rw [e_spec_SpotsOf]
  unfold t_spec_SpotsOf
  refine sim_box O (cs := [Sl.enc s_.points]) (by first | rfl | simp) (fun o1 h2 O3 => ?_)
  replace O3 : Hold B h2 [(AV.ptr o1 1 0 0, .pt 1 [Sl.enc s_.points])] := O3
  refine sim_eqO (y' := tp_spec_l02Stroke ⟨[s_], 0⟩) (by simp only [tp_spec_l02Stroke, get_pt1, obind_sm]) ?_
  refine sim_call1 he_spec_l02Stroke (O3.snapRn 0 rfl s_ rfl rfl) (fun c5 => ?_)
  refine sim_let2 (hand_plain (by rfl) _ _) ?_
  refine sim_let (v := bv (!c5)) (aUn_not _) ?_
  refine sim_cond (fun c6 => ?_) (fun c6 => ?_)
  · exact sim_ret (release_plain (by rfl) _)
  · refine sim_build (A := Spot) O3 ([] : List Spot) rfl (by first | rfl | simp [aFillRows, zrows]) rfl (fun x7 h8 O9 => ?_)
    replace O9 : Hold B h8 [(AV.ptr o1 1 0 0, .pt 1 [Sl.enc s_.points]), (x7, obS ((some ([] : List Spot)) : Sl Spot))] := O9
    refine sim_bind ((tl0_spec_SpotsOf env he_spec_l02Stroke he_spec_l06Spot s_ o1 c5 x7) ⟨_, rfl, O9⟩) (fun qq41 r hq => ?_)
    revert hq
    revert qq41
    intro q19 hq
    obtain ⟨q20, z18, h16, rfl, O17⟩ := hq
    rw [e_lk0x0_spec_SpotsOf]
    have O21 : Hold B h16 [(z18, obS (q19 : Sl Spot))] := O17.sel [1] (by decide) rfl
    exact sim_ret (release_of (by simp only [ids_tup, ids_aggD, ids_agg, ids_iv, ids_bv, ids_sv, ids_bt, ids_nilS, ids_enc, O21.idsD (A := Spot) (s := q19) 0 rfl, List.map_append, List.map_nil, List.flatMap_cons, List.flatMap_nil, List.append_nil, List.nil_append]; simpa only [List.flatMap_cons, List.flatMap_nil, List.append_nil, List.nil_append] using O21.nd2) (by simp only [rel_tup, rel_aggD, rel_agg, rel_iv, rel_bv, rel_sv, rel_bt, rel_nilS, rel_enc, O21.relD (A := Spot) (s := q19) 0 rfl, omapc, omapn, obind_sm] <;> rfl))
theorem tt_spec_SpotsOf : PureOK Try.prog n_spec_SpotsOf (C1 (fun c : (Sl Spot) × Int => AV.tup [rS c.1, enc c.2]) t_spec_SpotsOf) := pureC1 (Econs tt_spec_l02Stroke (Econs tt_spec_l06Spot E0)) mixed hb_spec_SpotsOf fun s_ => ts_spec_SpotsOf _ (by simp [envL]) (by simp [envL]) s_

def s0_impl_SpeedsOf (s_ : Stroke) : ((Sl Int) × Int) → Option (Sum ((Sl Int) × Int) (Sl Int)) := fun (w10, w13) =>
  bif decide (w13 < (((s_.points.getD []).length : Nat) : Int)) then
    obind (getI (s_.points.getD []) (wr (w13 - 1))) fun a23 =>
    obind (getI (s_.points.getD []) w13) fun a27 =>
    obind (t_impl_lengthOf a23 a27) fun c43 =>
    obind (quoI (wr (1000 * c43)) (wr (a27.t - a23.t))) fun q44 =>
    obind (appO w10 ([q44] : List Int)) fun _ =>
    some (.inl ((appS w10 ([q44] : List Int)), wr (w13 + 1)))
  else
    some (.inr w10)
def t_impl_SpeedsOf (s_ : Stroke) : Option ((Sl Int) × Int) :=
  obind (t_impl_ValidStroke s_) fun c5 =>
  bif !c5 then
    some ((none : Sl Int), 1)
  else
    obind (loopT (s0_impl_SpeedsOf s_) ((none : Sl Int), 1)) fun q17 =>
    some (q17, 0)

theorem tl0_impl_SpeedsOf (env : Nat → Contract) {B : Base} (he_impl_ValidStroke : env n_impl_ValidStroke = .pure (C1 (fun c : Bool => enc c) t_impl_ValidStroke)) (he_impl_lengthOf : env n_impl_lengthOf = .pure (C2 (fun c : Int => enc c) t_impl_lengthOf)) (s_ : Stroke) (o1 : Nat) (c5 : Bool)  {st : (Sl Int) × Int} {tm : TM} {h : Heap} (R : (fun (st : (Sl Int) × Int) tm h11 => match st with | (w10, w13) => ∃ z9, tm = [AV.agg [Sl.enc s_.points], AV.ptr o1 1 0 0, nilS, iv 0, z9, iv w13, AV.top, AV.top, AV.agg [Sl.enc s_.points], bv c5, bv (!c5), AV.top, AV.top, AV.top, AV.top, AV.top, AV.top, AV.top, AV.top, AV.top, AV.top, AV.top, AV.top, AV.top, AV.top, AV.top, AV.top, AV.top, AV.top, AV.top, AV.top, AV.top, AV.top, AV.top, AV.top, AV.top, AV.top, AV.top, AV.top, AV.top, AV.top, AV.top, und] ∧ Hold B h11 [(AV.ptr o1 1 0 0, .pt 1 [Sl.enc s_.points]), (z9, obS (w10 : Sl Int))]) st tm h) : Sim (loopP hm0_impl_SpeedsOf xm0_impl_SpeedsOf (lb0_impl_SpeedsOf env) tm h) (loopT (s0_impl_SpeedsOf s_) st) (fun (q : Sl Int) (r : Res) => match q with | q17 => ∃ (q18 : Int) (z16 : AV) (z19 : AV) (z20 : AV) (h14 : Heap), r = (.exit 0, [AV.agg [Sl.enc s_.points], AV.ptr o1 1 0 0, nilS, iv 0, z16, iv q18, z19, z20, AV.agg [Sl.enc s_.points], bv c5, bv (!c5), AV.top, AV.top, AV.top, AV.top, AV.top, AV.top, AV.top, AV.top, AV.top, AV.top, AV.top, AV.top, AV.top, AV.top, AV.top, AV.top, AV.top, AV.top, AV.top, AV.top, AV.top, AV.top, AV.top, AV.top, AV.top, AV.top, AV.top, AV.top, AV.top, AV.top, AV.top, und], h14) ∧ Hold B h14 [(AV.ptr o1 1 0 0, .pt 1 [Sl.enc s_.points]), (z16, obS (q17 : Sl Int))]) := by
  refine loop_sim (Rel := fun (st : (Sl Int) × Int) tm h11 => match st with | (w10, w13) => ∃ z9, tm = [AV.agg [Sl.enc s_.points], AV.ptr o1 1 0 0, nilS, iv 0, z9, iv w13, AV.top, AV.top, AV.agg [Sl.enc s_.points], bv c5, bv (!c5), AV.top, AV.top, AV.top, AV.top, AV.top, AV.top, AV.top, AV.top, AV.top, AV.top, AV.top, AV.top, AV.top, AV.top, AV.top, AV.top, AV.top, AV.top, AV.top, AV.top, AV.top, AV.top, AV.top, AV.top, AV.top, AV.top, AV.top, AV.top, AV.top, AV.top, AV.top, und] ∧ Hold B h11 [(AV.ptr o1 1 0 0, .pt 1 [Sl.enc s_.points]), (z9, obS (w10 : Sl Int))]) (fun st tm h11 R => ?_) R
  obtain ⟨w10, w13⟩ := st
  obtain ⟨z9, rfl, O12⟩ := R
  rw [e_lb0_impl_SpeedsOf]
  unfold s0_impl_SpeedsOf
  dsimp only
  refine sim_let (v := AV.ptr o1 1 0 0) rfl ?_
  refine sim_let (v := Sl.enc s_.points) (O12.ld 0 rfl false 1 0) ?_
  refine sim_let (v := iv (((s_.points.getD []).length : Nat) : Int)) (Tab.enc h11 s_.points).len ?_
  refine sim_let (v := bv (decide (w13 < (((s_.points.getD []).length : Nat) : Int)))) (aBin_lss _ _) ?_
  refine sim_cond (fun c22 => ?_) (fun c22 => ?_)
  · refine sim_let (v := AV.ptr o1 1 0 0) rfl ?_
    refine sim_let (v := Sl.enc s_.points) (O12.ld 0 rfl false 1 0) ?_
    refine sim_let (v := iv (wr (w13 - 1))) (aBin_sub _ _) ?_
    refine sim_get (Tab.enc h11 s_.points) (fun m24 a23 hi25 hm26 => ?_)
    refine sim_let (v := AV.agg [iv a23.x, iv a23.y, iv a23.t]) ((Tab.enc h11 s_.points).ld hm26 true 3 0) ?_
    refine sim_let (v := AV.ptr o1 1 0 0) rfl ?_
    refine sim_let (v := Sl.enc s_.points) (O12.ld 0 rfl false 1 0) ?_
    refine sim_get (Tab.enc h11 s_.points) (fun m28 a27 hi29 hm30 => ?_)
    refine sim_let (v := AV.agg [iv a27.x, iv a27.y, iv a27.t]) ((Tab.enc h11 s_.points).ld hm30 true 3 0) ?_
    refine sim_box O12 (cs := [iv 0, iv 0, iv 0]) (by first | rfl | simp) (fun o31 h32 O33 => ?_)
    replace O33 : Hold B h32 [(AV.ptr o1 1 0 0, .pt 1 [Sl.enc s_.points]), (z9, obS (w10 : Sl Int)), (AV.ptr o31 1 0 0, .pt 3 [iv 0, iv 0, iv 0])] := O33
    refine sim_box O33 (cs := [iv 0, iv 0, iv 0]) (by first | rfl | simp) (fun o35 h36 O37 => ?_)
    replace O37 : Hold B h36 [(AV.ptr o1 1 0 0, .pt 1 [Sl.enc s_.points]), (z9, obS (w10 : Sl Int)), (AV.ptr o31 1 0 0, .pt 3 [iv 0, iv 0, iv 0]), (AV.ptr o35 1 0 0, .pt 3 [iv 0, iv 0, iv 0])] := O37
    refine sim_guardP ⟨⟨(at_of (v := Sl.enc s_.points) (O12.ld 0 rfl false 1 0)), ⟨(at_of (v := Sl.enc s_.points) (O33.ld 0 rfl false 1 0)), ⟨(at_of (v := Sl.enc s_.points) (O37.ld 0 rfl false 1 0)), trivial⟩⟩⟩, ⟨⟨(at_of (((Tab.enc h11 s_.points)).ixm hi25 hm26)), ⟨(at_of (((Tab.enc h32 s_.points)).ixm hi25 hm26)), ⟨(at_of (((Tab.enc h36 s_.points)).ixm hi25 hm26)), trivial⟩⟩⟩, ⟨⟨(at_of (v := AV.agg [iv a23.x, iv a23.y, iv a23.t]) ((Tab.enc h11 s_.points).ld hm26 true 3 0)), ⟨(at_of (v := AV.agg [iv a23.x, iv a23.y, iv a23.t]) ((Tab.enc h32 s_.points).ld hm26 true 3 0)), ⟨(at_of (v := AV.agg [iv a23.x, iv a23.y, iv a23.t]) ((Tab.enc h36 s_.points).ld hm26 true 3 0)), trivial⟩⟩⟩, trivial⟩⟩⟩ ?_
    refine sim_store O37 2 (cs' := [iv a23.x, iv a23.y, iv a23.t]) rfl (by first | rfl | simp) (by simp) (by first | rfl | simp) (by first | rfl | simp [splice]) (fun h39 O40 => ?_)
    replace O40 : Hold B h39 [(AV.ptr o1 1 0 0, .pt 1 [Sl.enc s_.points]), (z9, obS (w10 : Sl Int)), (AV.ptr o31 1 0 0, .pt 3 [iv a23.x, iv a23.y, iv a23.t]), (AV.ptr o35 1 0 0, .pt 3 [iv 0, iv 0, iv 0])] := O40
    refine sim_guardP ⟨⟨(at_of (v := Sl.enc s_.points) (O12.ld 0 rfl false 1 0)), ⟨(at_of (v := Sl.enc s_.points) (O33.ld 0 rfl false 1 0)), ⟨(at_of (v := Sl.enc s_.points) (O37.ld 0 rfl false 1 0)), ⟨(at_of (v := Sl.enc s_.points) (O40.ld 0 rfl false 1 0)), trivial⟩⟩⟩⟩, ⟨⟨(at_of (((Tab.enc h11 s_.points)).ixm hi29 hm30)), ⟨(at_of (((Tab.enc h32 s_.points)).ixm hi29 hm30)), ⟨(at_of (((Tab.enc h36 s_.points)).ixm hi29 hm30)), ⟨(at_of (((Tab.enc h39 s_.points)).ixm hi29 hm30)), trivial⟩⟩⟩⟩, ⟨⟨(at_of (v := AV.agg [iv a27.x, iv a27.y, iv a27.t]) ((Tab.enc h11 s_.points).ld hm30 true 3 0)), ⟨(at_of (v := AV.agg [iv a27.x, iv a27.y, iv a27.t]) ((Tab.enc h32 s_.points).ld hm30 true 3 0)), ⟨(at_of (v := AV.agg [iv a27.x, iv a27.y, iv a27.t]) ((Tab.enc h36 s_.points).ld hm30 true 3 0)), ⟨(at_of (v := AV.agg [iv a27.x, iv a27.y, iv a27.t]) ((Tab.enc h39 s_.points).ld hm30 true 3 0)), trivial⟩⟩⟩⟩, trivial⟩⟩⟩ ?_
    refine sim_store O40 3 (cs' := [iv a27.x, iv a27.y, iv a27.t]) rfl (by first | rfl | simp) (by simp) (by first | rfl | simp) (by first | rfl | simp [splice]) (fun h41 O42 => ?_)
    replace O42 : Hold B h41 [(AV.ptr o1 1 0 0, .pt 1 [Sl.enc s_.points]), (z9, obS (w10 : Sl Int)), (AV.ptr o31 1 0 0, .pt 3 [iv a23.x, iv a23.y, iv a23.t]), (AV.ptr o35 1 0 0, .pt 3 [iv a27.x, iv a27.y, iv a27.t])] := O42
    refine sim_guardP trivial ?_
    refine sim_let (v := AV.agg [iv a23.x, iv a23.y, iv a23.t]) (O42.ld 2 rfl true 3 0) ?_
    refine sim_let (v := AV.agg [iv a27.x, iv a27.y, iv a27.t]) (O42.ld 3 rfl true 3 0) ?_
    refine sim_guardP ⟨⟨(at_of (v := AV.agg [iv a23.x, iv a23.y, iv a23.t]) (O42.ld 2 rfl true 3 0)), trivial⟩, ⟨⟨(at_of (v := AV.agg [iv a27.x, iv a27.y, iv a27.t]) (O42.ld 3 rfl true 3 0)), trivial⟩, trivial⟩⟩ ?_
    refine sim_call2 he_impl_lengthOf (snapD_nr _ a23 rfl) (snapD_nr _ a27 rfl) (fun c43 => ?_)
    refine sim_let2 (hand_plain (by rfl) _ _) ?_
    refine sim_guardP (Nat.le_refl _) ?_
    refine sim_let (v := iv (wr (1000 * c43))) (aBin_mul _ _) ?_
    refine sim_let (v := AV.ptr o35 1 0 2) rfl ?_
    refine sim_let (v := iv a27.t) (O42.ld 3 rfl false 1 2) ?_
    refine sim_let (v := AV.ptr o31 1 0 2) rfl ?_
    refine sim_let (v := iv a23.t) (O42.ld 2 rfl false 1 2) ?_
    refine sim_let (v := iv (wr (a27.t - a23.t))) (aBin_sub _ _) ?_
    refine sim_quo (fun q44 => ?_)
    refine sim_build (A := Int) O42 ([q44] : List Int) rfl (by first | rfl | simp [aFillRows, zrows]) rfl (fun x45 h46 O47 => ?_)
    replace O47 : Hold B h46 [(AV.ptr o1 1 0 0, .pt 1 [Sl.enc s_.points]), (z9, obS (w10 : Sl Int)), (AV.ptr o31 1 0 0, .pt 3 [iv a23.x, iv a23.y, iv a23.t]), (AV.ptr o35 1 0 0, .pt 3 [iv a27.x, iv a27.y, iv a27.t]), (x45, obS ((some ([q44] : List Int)) : Sl Int))] := O47
    refine sim_guardP ⟨⟨(at_of (v := iv a27.t) (O42.ld 3 rfl false 1 2)), ⟨(at_of (v := iv a27.t) (O42.ld 3 rfl false 1 2)), ⟨(at_of (v := iv a27.t) (O47.ld 3 rfl false 1 2)), trivial⟩⟩⟩, ⟨⟨(at_of (v := iv a23.t) (O42.ld 2 rfl false 1 2)), ⟨(at_of (v := iv a23.t) (O42.ld 2 rfl false 1 2)), ⟨(at_of (v := iv a23.t) (O47.ld 2 rfl false 1 2)), trivial⟩⟩⟩, trivial⟩⟩ ?_
    refine sim_append (A := Int) (s := w10) O47 1 ([q44] : List Int) rfl (O47.src (A := Int) (s := (some ([q44] : List Int))) 4 rfl) (by decide) (fun x50 h51 O52 => ?_)
    replace O52 : Hold B h51 [(AV.ptr o1 1 0 0, .pt 1 [Sl.enc s_.points]), (x50, obS ((appS w10 ([q44] : List Int)) : Sl Int)), (AV.ptr o31 1 0 0, .pt 3 [iv a23.x, iv a23.y, iv a23.t]), (AV.ptr o35 1 0 0, .pt 3 [iv a27.x, iv a27.y, iv a27.t]), (x45, obS ((some ([q44] : List Int)) : Sl Int))] := O52
    have O54 : Hold B h51 [(AV.ptr o1 1 0 0, .pt 1 [Sl.enc s_.points]), (x50, obS ((appS w10 ([q44] : List Int)) : Sl Int)), (AV.ptr o31 1 0 0, .pt 3 [iv a23.x, iv a23.y, iv a23.t]), (AV.ptr o35 1 0 0, .pt 3 [iv a27.x, iv a27.y, iv a27.t])] := O52.sel [0, 1, 2, 3] (by decide) rfl
    refine sim_guardP trivial ?_
    refine sim_let (v := iv (wr (w13 + 1))) (aBin_add _ _) ?_
    have O55 : Hold B h51 [(AV.ptr o1 1 0 0, .pt 1 [Sl.enc s_.points]), (x50, obS ((appS w10 ([q44] : List Int)) : Sl Int))] := O54.sel [0, 1] (by decide) rfl
    exact sim_ret ⟨rfl, _, rfl, O55⟩
  · exact sim_ret ⟨nofun, _, _, _, _, _, rfl, O12⟩
theorem ts_impl_SpeedsOf (env : Nat → Contract) (he_impl_ValidStroke : env n_impl_ValidStroke = .pure (C1 (fun c : Bool => enc c) t_impl_ValidStroke)) (he_impl_lengthOf : env n_impl_lengthOf = .pure (C2 (fun c : Int => enc c) t_impl_lengthOf)) (s_ : Stroke) : Sim (denFnM true Try.prog env n_impl_SpeedsOf [AV.agg [Sl.enc s_.points]] []) (t_impl_SpeedsOf s_) fun c p => release p.2 depth p.1 = some ((fun c : (Sl Int) × Int => AV.tup [rS c.1, enc c.2]) c) := by
  have O := Hold.nil []
  generalize hB : (⟨[], []⟩ : Base) = B at O
  clear hB
  rw [e_impl_SpeedsOf]
  unfold t_impl_SpeedsOf
  refine sim_box O (cs := [Sl.enc s_.points]) (by first | rfl | simp) (fun o1 h2 O3 => ?_)
  replace O3 : Hold B h2 [(AV.ptr o1 1 0 0, .pt 1 [Sl.enc s_.points])] := O3
  refine sim_let (v := AV.agg [Sl.enc s_.points]) (O3.ld 0 rfl true 1 0) ?_
  refine sim_call1 he_impl_ValidStroke (snapD_nr _ s_ rfl) (fun c5 => ?_)
  refine sim_let2 (hand_plain (by rfl) _ _) ?_
  refine sim_let (v := bv (!c5)) (aUn_not _) ?_
  refine sim_cond (fun c6 => ?_) (fun c6 => ?_)
  · exact sim_ret (release_plain (by rfl) _)
  · have O7 : Hold B h2 [(AV.ptr o1 1 0 0, .pt 1 [Sl.enc s_.points]), (nilS, obS ((none : Sl Int) : Sl Int))] := O3.addnil
    refine sim_bind ((tl0_impl_SpeedsOf env he_impl_ValidStroke he_impl_lengthOf s_ o1 c5) ⟨_, rfl, O7⟩) (fun qq58 r hq => ?_)
    revert hq
    revert qq58
    intro q17 hq
    obtain ⟨q18, z16, z19, z20, h14, rfl, O15⟩ := hq
    rw [e_lk0x0_impl_SpeedsOf]
    have O21 : Hold B h14 [(z16, obS (q17 : Sl Int))] := O15.sel [1] (by decide) rfl
    exact sim_ret (release_of (by simp only [ids_tup, ids_aggD, ids_agg, ids_iv, ids_bv, ids_sv, ids_bt, ids_nilS, ids_enc, O21.idsD (A := Int) (s := q17) 0 rfl, List.map_append, List.map_nil, List.flatMap_cons, List.flatMap_nil, List.append_nil, List.nil_append]; simpa only [List.flatMap_cons, List.flatMap_nil, List.append_nil, List.nil_append] using O21.nd2) (by simp only [rel_tup, rel_aggD, rel_agg, rel_iv, rel_bv, rel_sv, rel_bt, rel_nilS, rel_enc, O21.relD (A := Int) (s := q17) 0 rfl, omapc, omapn, obind_sm] <;> rfl))
theorem tt_impl_SpeedsOf : PureOK Try.prog n_impl_SpeedsOf (C1 (fun c : (Sl Int) × Int => AV.tup [rS c.1, enc c.2]) t_impl_SpeedsOf) := pureCW1 (Econs tt_impl_ValidStroke (Econs tt_impl_lengthOf E0)) mixed hb_impl_SpeedsOf fun s_ => ts_impl_SpeedsOf _ (by simp [envL]) (by simp [envL]) s_

def s0_spec_SpeedsOf (s_ : Stroke) : ((Sl Int) × Int) → Option (Sum ((Sl Int) × Int) (Sl Int)) := fun (w12, w15) =>
  bif decide (w15 < (((s_.points.getD []).length : Nat) : Int)) then
    obind (getI (s_.points.getD []) (wr (w15 - 1))) fun a23 =>
    obind (getI (s_.points.getD []) w15) fun a27 =>
    obind (t_spec_l05Length a23 a27) fun c31 =>
    obind (getI (s_.points.getD []) w15) fun a32 =>
    obind (getI (s_.points.getD []) (wr (w15 - 1))) fun a36 =>
    obind (quoI (wr (1000 * c31)) (wr (a32.t - a36.t))) fun q40 =>
    obind (appO w12 ([q40] : List Int)) fun _ =>
    some (.inl ((appS w12 ([q40] : List Int)), wr (w15 + 1)))
  else
    some (.inr w12)
def t_spec_SpeedsOf (s_ : Stroke) : Option ((Sl Int) × Int) :=
  obind (t_spec_l02Stroke s_) fun c5 =>
  bif !c5 then
    some ((none : Sl Int), 1)
  else
    obind (loopT (s0_spec_SpeedsOf s_) ((some ([] : List Int)), 1)) fun q19 =>
    some (q19, 0)

theorem tl0_spec_SpeedsOf (env : Nat → Contract) {B : Base} (he_spec_l02Stroke : env n_spec_l02Stroke = .pure (C1 (fun c : Bool => enc c) tp_spec_l02Stroke)) (he_spec_l05Length : env n_spec_l05Length = .pure (C2 (fun c : Int => enc c) t_spec_l05Length)) (s_ : Stroke) (o1 : Nat) (c5 : Bool) (x7 : AV)  {st : (Sl Int) × Int} {tm : TM} {h : Heap} (R : (fun (st : (Sl Int) × Int) tm h13 => match st with | (w12, w15) => ∃ z11, tm = [AV.agg [Sl.enc s_.points], AV.ptr o1 1 0 0, nilS, iv 0, z11, iv w15, bv c5, bv (!c5), x7, AV.top, AV.top, AV.top, AV.top, AV.top, AV.top, AV.top, AV.top, AV.top, AV.top, AV.top, AV.top, AV.top, AV.top, AV.top, AV.top, AV.top, AV.top, AV.top, AV.top, AV.top, AV.top, AV.top, AV.top, AV.top, AV.top, AV.top, AV.top, AV.top, AV.top, AV.top, AV.top, AV.top, AV.top, AV.top, AV.top, AV.top, AV.top, und] ∧ Hold B h13 [(AV.ptr o1 1 0 0, .pt 1 [Sl.enc s_.points]), (z11, obS (w12 : Sl Int))]) st tm h) : Sim (loopP hm0_spec_SpeedsOf xm0_spec_SpeedsOf (lb0_spec_SpeedsOf env) tm h) (loopT (s0_spec_SpeedsOf s_) st) (fun (q : Sl Int) (r : Res) => match q with | q19 => ∃ (q20 : Int) (z18 : AV) (h16 : Heap), r = (.exit 0, [AV.agg [Sl.enc s_.points], AV.ptr o1 1 0 0, nilS, iv 0, z18, iv q20, bv c5, bv (!c5), x7, AV.top, AV.top, AV.top, AV.top, AV.top, AV.top, AV.top, AV.top, AV.top, AV.top, AV.top, AV.top, AV.top, AV.top, AV.top, AV.top, AV.top, AV.top, AV.top, AV.top, AV.top, AV.top, AV.top, AV.top, AV.top, AV.top, AV.top, AV.top, AV.top, AV.top, AV.top, AV.top, AV.top, AV.top, AV.top, AV.top, AV.top, AV.top, und], h16) ∧ Hold B h16 [(AV.ptr o1 1 0 0, .pt 1 [Sl.enc s_.points]), (z18, obS (q19 : Sl Int))]) := by
  refine loop_sim (Rel := fun (st : (Sl Int) × Int) tm h13 => match st with | (w12, w15) => ∃ z11, tm = [AV.agg [Sl.enc s_.points], AV.ptr o1 1 0 0, nilS, iv 0, z11, iv w15, bv c5, bv (!c5), x7, AV.top, AV.top, AV.top, AV.top, AV.top, AV.top, AV.top, AV.top, AV.top, AV.top, AV.top, AV.top, AV.top, AV.top, AV.top, AV.top, AV.top, AV.top, AV.top, AV.top, AV.top, AV.top, AV.top, AV.top, AV.top, AV.top, AV.top, AV.top, AV.top, AV.top, AV.top, AV.top, AV.top, AV.top, AV.top, AV.top, AV.top, AV.top, und] ∧ Hold B h13 [(AV.ptr o1 1 0 0, .pt 1 [Sl.enc s_.points]), (z11, obS (w12 : Sl Int))]) (fun st tm h13 R => ?_) R
  obtain ⟨w12, w15⟩ := st
  obtain ⟨z11, rfl, O14⟩ := R
  rw [e_lb0_spec_SpeedsOf]
  unfold s0_spec_SpeedsOf
  dsimp only
  refine sim_let (v := AV.ptr o1 1 0 0) rfl ?_
  refine sim_let (v := Sl.enc s_.points) (O14.ld 0 rfl false 1 0) ?_
  refine sim_let (v := iv (((s_.points.getD []).length : Nat) : Int)) (Tab.enc h13 s_.points).len ?_
  refine sim_let (v := bv (decide (w15 < (((s_.points.getD []).length : Nat) : Int)))) (aBin_lss _ _) ?_
  refine sim_cond (fun c22 => ?_) (fun c22 => ?_)
  · refine sim_let (v := AV.ptr o1 1 0 0) rfl ?_
    refine sim_let (v := Sl.enc s_.points) (O14.ld 0 rfl false 1 0) ?_
    refine sim_let (v := iv (wr (w15 - 1))) (aBin_sub _ _) ?_
    refine sim_get (Tab.enc h13 s_.points) (fun m24 a23 hi25 hm26 => ?_)
    refine sim_let (v := AV.agg [iv a23.x, iv a23.y, iv a23.t]) ((Tab.enc h13 s_.points).ld hm26 true 3 0) ?_
    refine sim_let (v := AV.ptr o1 1 0 0) rfl ?_
    refine sim_let (v := Sl.enc s_.points) (O14.ld 0 rfl false 1 0) ?_
    refine sim_get (Tab.enc h13 s_.points) (fun m28 a27 hi29 hm30 => ?_)
    refine sim_let (v := AV.agg [iv a27.x, iv a27.y, iv a27.t]) ((Tab.enc h13 s_.points).ld hm30 true 3 0) ?_
    refine sim_callQ2 he_spec_l05Length (snapD_nr _ a23 rfl) (snapD_nr _ a27 rfl) (fun c31 => ?_)
    refine sim_let2 (hand_plain (by rfl) _ _) ?_
    refine sim_let (v := iv (wr (1000 * c31))) (aBin_mul _ _) ?_
    refine sim_let (v := AV.ptr o1 1 0 0) rfl ?_
    refine sim_let (v := Sl.enc s_.points) (O14.ld 0 rfl false 1 0) ?_
    refine sim_get (Tab.enc h13 s_.points) (fun m33 a32 hi34 hm35 => ?_)
    refine sim_let (v := elp (Sl.enc s_.points) m33 2) ((Tab.enc h13 s_.points).fld _ _ _) ?_
    refine sim_let (v := iv a32.t) ((Tab.enc h13 s_.points).ld hm35 false 1 2) ?_
    refine sim_let (v := AV.ptr o1 1 0 0) rfl ?_
    refine sim_let (v := Sl.enc s_.points) (O14.ld 0 rfl false 1 0) ?_
    refine sim_let (v := iv (wr (w15 - 1))) (aBin_sub _ _) ?_
    refine sim_get (Tab.enc h13 s_.points) (fun m37 a36 hi38 hm39 => ?_)
    refine sim_let (v := elp (Sl.enc s_.points) m37 2) ((Tab.enc h13 s_.points).fld _ _ _) ?_
    refine sim_let (v := iv a36.t) ((Tab.enc h13 s_.points).ld hm39 false 1 2) ?_
    refine sim_let (v := iv (wr (a32.t - a36.t))) (aBin_sub _ _) ?_
    refine sim_quo (fun q40 => ?_)
    refine sim_build (A := Int) O14 ([q40] : List Int) rfl (by first | rfl | simp [aFillRows, zrows]) rfl (fun x41 h42 O43 => ?_)
    replace O43 : Hold B h42 [(AV.ptr o1 1 0 0, .pt 1 [Sl.enc s_.points]), (z11, obS (w12 : Sl Int)), (x41, obS ((some ([q40] : List Int)) : Sl Int))] := O43
    refine sim_append (A := Int) (s := w12) O43 1 ([q40] : List Int) rfl (O43.src (A := Int) (s := (some ([q40] : List Int))) 2 rfl) (by decide) (fun x46 h47 O48 => ?_)
    replace O48 : Hold B h47 [(AV.ptr o1 1 0 0, .pt 1 [Sl.enc s_.points]), (x46, obS ((appS w12 ([q40] : List Int)) : Sl Int)), (x41, obS ((some ([q40] : List Int)) : Sl Int))] := O48
    have O50 : Hold B h47 [(AV.ptr o1 1 0 0, .pt 1 [Sl.enc s_.points]), (x46, obS ((appS w12 ([q40] : List Int)) : Sl Int))] := O48.sel [0, 1] (by decide) rfl
    refine sim_let (v := iv (wr (w15 + 1))) (aBin_add _ _) ?_
    exact sim_ret ⟨rfl, _, rfl, O50⟩
  · exact sim_ret ⟨nofun, _, _, _, rfl, O14⟩
theorem ts_spec_SpeedsOf (env : Nat → Contract) (he_spec_l02Stroke : env n_spec_l02Stroke = .pure (C1 (fun c : Bool => enc c) tp_spec_l02Stroke)) (he_spec_l05Length : env n_spec_l05Length = .pure (C2 (fun c : Int => enc c) t_spec_l05Length)) (s_ : Stroke) : Sim (denFn Try.prog env n_spec_SpeedsOf [AV.agg [Sl.enc s_.points]] []) (t_spec_SpeedsOf s_) fun c p => release p.2 depth p.1 = some ((fun c : (Sl Int) × Int => AV.tup [rS c.1, enc c.2]) c) := by
  have O := Hold.nil []
  generalize hB : (⟨[], []⟩ : Base) = B at O
  clear hB
  rw [e_spec_SpeedsOf]
  unfold t_spec_SpeedsOf
  refine sim_box O (cs := [Sl.enc s_.points]) (by first | rfl | simp) (fun o1 h2 O3 => ?_)
  replace O3 : Hold B h2 [(AV.ptr o1 1 0 0, .pt 1 [Sl.enc s_.points])] := O3
  refine sim_eqO (y' := tp_spec_l02Stroke ⟨[s_], 0⟩) (by simp only [tp_spec_l02Stroke, get_pt1, obind_sm]) ?_
  refine sim_call1 he_spec_l02Stroke (O3.snapRn 0 rfl s_ rfl rfl) (fun c5 => ?_)
  refine sim_let2 (hand_plain (by rfl) _ _) ?_
  refine sim_let (v := bv (!c5)) (aUn_not _) ?_
  refine sim_cond (fun c6 => ?_) (fun c6 => ?_)
  · exact sim_ret (release_plain (by rfl) _)
  · refine sim_build (A := Int) O3 ([] : List Int) rfl (by first | rfl | simp [aFillRows, zrows]) rfl (fun x7 h8 O9 => ?_)
    replace O9 : Hold B h8 [(AV.ptr o1 1 0 0, .pt 1 [Sl.enc s_.points]), (x7, obS ((some ([] : List Int)) : Sl Int))] := O9
    refine sim_bind ((tl0_spec_SpeedsOf env he_spec_l02Stroke he_spec_l05Length s_ o1 c5 x7) ⟨_, rfl, O9⟩) (fun qq54 r hq => ?_)
    revert hq
    revert qq54
    intro q19 hq
    obtain ⟨q20, z18, h16, rfl, O17⟩ := hq
    rw [e_lk0x0_spec_SpeedsOf]
    have O21 : Hold B h16 [(z18, obS (q19 : Sl Int))] := O17.sel [1] (by decide) rfl
    exact sim_ret (release_of (by simp only [ids_tup, ids_aggD, ids_agg, ids_iv, ids_bv, ids_sv, ids_bt, ids_nilS, ids_enc, O21.idsD (A := Int) (s := q19) 0 rfl, List.map_append, List.map_nil, List.flatMap_cons, List.flatMap_nil, List.append_nil, List.nil_append]; simpa only [List.flatMap_cons, List.flatMap_nil, List.append_nil, List.nil_append] using O21.nd2) (by simp only [rel_tup, rel_aggD, rel_agg, rel_iv, rel_bv, rel_sv, rel_bt, rel_nilS, rel_enc, O21.relD (A := Int) (s := q19) 0 rfl, omapc, omapn, obind_sm] <;> rfl))
theorem tt_spec_SpeedsOf : PureOK Try.prog n_spec_SpeedsOf (C1 (fun c : (Sl Int) × Int => AV.tup [rS c.1, enc c.2]) t_spec_SpeedsOf) := pureC1 (Econs tt_spec_l02Stroke (Econs tt_spec_l05Length E0)) mixed hb_spec_SpeedsOf fun s_ => ts_spec_SpeedsOf _ (by simp [envL]) (by simp [envL]) s_

def s0_impl_LongestPause (s_ : Stroke) : (Int × Int × Int) → Option (Sum (Int × Int × Int) Int) := fun (w10, w11, w12) =>
  bif decide ((wr (w12 + 1)) < (((s_.points.getD []).length : Nat) : Int)) then
    obind (getI (s_.points.getD []) (wr (w12 + 1))) fun a20 =>
    obind (getI (s_.points.getD []) w12) fun a24 =>
    bif decide (w11 < (wr (a20.t - a24.t))) then
      some (.inl (w12, wr (a20.t - a24.t), wr (w12 + 1)))
    else
      some (.inl (w10, w11, wr (w12 + 1)))
  else
    some (.inr w10)
def t_impl_LongestPause (s_ : Stroke) : Option (Int × Int) :=
  obind (t_impl_ValidStroke s_) fun c5 =>
  bif !c5 then
    some (0, 1)
  else
    bif decide ((((s_.points.getD []).length : Nat) : Int) = 1) then
      some (0, 6)
    else
      obind (loopT (s0_impl_LongestPause s_) (0, (-1), 0)) fun q15 =>
      some (q15, 0)

theorem tl0_impl_LongestPause (env : Nat → Contract) {B : Base} (he_impl_ValidStroke : env n_impl_ValidStroke = .pure (C1 (fun c : Bool => enc c) t_impl_ValidStroke)) (s_ : Stroke) (o1 : Nat) (c5 : Bool)  {st : Int × Int × Int} {tm : TM} {h : Heap} (R : (fun (st : Int × Int × Int) tm h8 => match st with | (w10, w11, w12) => tm = [AV.agg [Sl.enc s_.points], AV.ptr o1 1 0 0, iv 0, iv 0, iv w10, iv w11, iv w12, AV.top, AV.agg [Sl.enc s_.points], bv c5, bv (!c5), AV.ptr o1 1 0 0, Sl.enc s_.points, iv (((s_.points.getD []).length : Nat) : Int), bv (decide ((((s_.points.getD []).length : Nat) : Int) = 1)), AV.top, AV.top, AV.top, AV.top, AV.top, AV.top, AV.top, AV.top, AV.top, AV.top, AV.top, AV.top, AV.top, AV.top, AV.top, AV.top, AV.top, AV.top, AV.top, AV.top, AV.top, AV.top, AV.top, AV.top, AV.top, AV.top, AV.top, und] ∧ Hold B h8 [(AV.ptr o1 1 0 0, .pt 1 [Sl.enc s_.points])]) st tm h) : Sim (loopP hm0_impl_LongestPause xm0_impl_LongestPause (lb0_impl_LongestPause env) tm h) (loopT (s0_impl_LongestPause s_) st) (fun (q : Int) (r : Res) => match q with | q15 => ∃ (q16 : Int) (q17 : Int) (z18 : AV) (h13 : Heap), r = (.exit 0, [AV.agg [Sl.enc s_.points], AV.ptr o1 1 0 0, iv 0, iv 0, iv q15, iv q16, iv q17, z18, AV.agg [Sl.enc s_.points], bv c5, bv (!c5), AV.ptr o1 1 0 0, Sl.enc s_.points, iv (((s_.points.getD []).length : Nat) : Int), bv (decide ((((s_.points.getD []).length : Nat) : Int) = 1)), AV.top, AV.top, AV.top, AV.top, AV.top, AV.top, AV.top, AV.top, AV.top, AV.top, AV.top, AV.top, AV.top, AV.top, AV.top, AV.top, AV.top, AV.top, AV.top, AV.top, AV.top, AV.top, AV.top, AV.top, AV.top, AV.top, AV.top, und], h13) ∧ Hold B h13 [(AV.ptr o1 1 0 0, .pt 1 [Sl.enc s_.points])]) := by
  refine loop_sim (Rel := fun (st : Int × Int × Int) tm h8 => match st with | (w10, w11, w12) => tm = [AV.agg [Sl.enc s_.points], AV.ptr o1 1 0 0, iv 0, iv 0, iv w10, iv w11, iv w12, AV.top, AV.agg [Sl.enc s_.points], bv c5, bv (!c5), AV.ptr o1 1 0 0, Sl.enc s_.points, iv (((s_.points.getD []).length : Nat) : Int), bv (decide ((((s_.points.getD []).length : Nat) : Int) = 1)), AV.top, AV.top, AV.top, AV.top, AV.top, AV.top, AV.top, AV.top, AV.top, AV.top, AV.top, AV.top, AV.top, AV.top, AV.top, AV.top, AV.top, AV.top, AV.top, AV.top, AV.top, AV.top, AV.top, AV.top, AV.top, AV.top, AV.top, und] ∧ Hold B h8 [(AV.ptr o1 1 0 0, .pt 1 [Sl.enc s_.points])]) (fun st tm h8 R => ?_) R
  obtain ⟨w10, w11, w12⟩ := st
  obtain ⟨rfl, O9⟩ := R
  rw [e_lb0_impl_LongestPause]
  unfold s0_impl_LongestPause
  dsimp only
  refine sim_let (v := iv (wr (w12 + 1))) (aBin_add _ _) ?_
  refine sim_let (v := AV.ptr o1 1 0 0) rfl ?_
  refine sim_let (v := Sl.enc s_.points) (O9.ld 0 rfl false 1 0) ?_
  refine sim_let (v := iv (((s_.points.getD []).length : Nat) : Int)) (Tab.enc h8 s_.points).len ?_
  refine sim_let (v := bv (decide ((wr (w12 + 1)) < (((s_.points.getD []).length : Nat) : Int)))) (aBin_lss _ _) ?_
  refine sim_cond (fun c19 => ?_) (fun c19 => ?_)
  · refine sim_let (v := AV.ptr o1 1 0 0) rfl ?_
    refine sim_let (v := Sl.enc s_.points) (O9.ld 0 rfl false 1 0) ?_
    refine sim_let (v := iv (wr (w12 + 1))) (aBin_add _ _) ?_
    refine sim_get (Tab.enc h8 s_.points) (fun m21 a20 hi22 hm23 => ?_)
    refine sim_let (v := elp (Sl.enc s_.points) m21 2) ((Tab.enc h8 s_.points).fld _ _ _) ?_
    refine sim_let (v := iv a20.t) ((Tab.enc h8 s_.points).ld hm23 false 1 2) ?_
    refine sim_let (v := AV.ptr o1 1 0 0) rfl ?_
    refine sim_let (v := Sl.enc s_.points) (O9.ld 0 rfl false 1 0) ?_
    refine sim_get (Tab.enc h8 s_.points) (fun m25 a24 hi26 hm27 => ?_)
    refine sim_let (v := elp (Sl.enc s_.points) m25 2) ((Tab.enc h8 s_.points).fld _ _ _) ?_
    refine sim_let (v := iv a24.t) ((Tab.enc h8 s_.points).ld hm27 false 1 2) ?_
    refine sim_let (v := iv (wr (a20.t - a24.t))) (aBin_sub _ _) ?_
    refine sim_let (v := bv (decide (w11 < (wr (a20.t - a24.t))))) (aBin_gtr _ _) ?_
    refine sim_cond (fun c28 => ?_) (fun c28 => ?_)
    · refine sim_let (v := iv (wr (w12 + 1))) (aBin_add _ _) ?_
      exact sim_ret ⟨rfl, rfl, O9⟩
    · refine sim_let (v := iv (wr (w12 + 1))) (aBin_add _ _) ?_
      exact sim_ret ⟨rfl, rfl, O9⟩
  · exact sim_ret ⟨nofun, _, _, _, _, rfl, O9⟩
theorem ts_impl_LongestPause (env : Nat → Contract) (he_impl_ValidStroke : env n_impl_ValidStroke = .pure (C1 (fun c : Bool => enc c) t_impl_ValidStroke)) (s_ : Stroke) : Sim (denFnM true Try.prog env n_impl_LongestPause [AV.agg [Sl.enc s_.points]] []) (t_impl_LongestPause s_) fun c p => release p.2 depth p.1 = some ((fun c : Int × Int => AV.tup [enc c.1, enc c.2]) c) := by
  have O := Hold.nil []
  generalize hB : (⟨[], []⟩ : Base) = B at O
  clear hB
  rw [e_impl_LongestPause]
  unfold t_impl_LongestPause
  refine sim_box O (cs := [Sl.enc s_.points]) (by first | rfl | simp) (fun o1 h2 O3 => ?_)
  replace O3 : Hold B h2 [(AV.ptr o1 1 0 0, .pt 1 [Sl.enc s_.points])] := O3
  refine sim_let (v := AV.agg [Sl.enc s_.points]) (O3.ld 0 rfl true 1 0) ?_
  refine sim_call1 he_impl_ValidStroke (snapD_nr _ s_ rfl) (fun c5 => ?_)
  refine sim_let2 (hand_plain (by rfl) _ _) ?_
  refine sim_let (v := bv (!c5)) (aUn_not _) ?_
  refine sim_cond (fun c6 => ?_) (fun c6 => ?_)
  · exact sim_ret (release_plain (by rfl) _)
  · refine sim_let (v := AV.ptr o1 1 0 0) rfl ?_
    refine sim_let (v := Sl.enc s_.points) (O3.ld 0 rfl false 1 0) ?_
    refine sim_let (v := iv (((s_.points.getD []).length : Nat) : Int)) (Tab.enc h2 s_.points).len ?_
    refine sim_let (v := bv (decide ((((s_.points.getD []).length : Nat) : Int) = 1))) (aCmp_eq _ _) ?_
    refine sim_cond (fun c7 => ?_) (fun c7 => ?_)
    · exact sim_ret (release_plain (by rfl) _)
    · refine sim_bind ((tl0_impl_LongestPause env he_impl_ValidStroke s_ o1 c5) ⟨rfl, O3⟩) (fun qq33 r hq => ?_)
      revert hq
      revert qq33
      intro q15 hq
      obtain ⟨q16, q17, z18, h13, rfl, O14⟩ := hq
      rw [e_lk0x0_impl_LongestPause]
      exact sim_ret (release_plain (by rfl) _)
theorem tt_impl_LongestPause : PureOK Try.prog n_impl_LongestPause (C1 (fun c : Int × Int => AV.tup [enc c.1, enc c.2]) t_impl_LongestPause) := pureCW1 (Econs tt_impl_ValidStroke E0) mixed hb_impl_LongestPause fun s_ => ts_impl_LongestPause _ (by simp [envL]) s_

def s0_spec_LongestPause (s_ : Stroke) : (Int × Int) → Option (Sum (Int × Int) Int) := fun (w10, w11) =>
  bif decide (w11 < (((s_.points.getD []).length : Nat) : Int)) then
    obind (getI (s_.points.getD []) w11) fun a17 =>
    obind (getI (s_.points.getD []) (wr (w11 - 1))) fun a21 =>
    obind (getI (s_.points.getD []) w10) fun a25 =>
    obind (getI (s_.points.getD []) (wr (w10 - 1))) fun a29 =>
    bif decide ((wr (a25.t - a29.t)) < (wr (a17.t - a21.t))) then
      some (.inl (w11, wr (w11 + 1)))
    else
      some (.inl (w10, wr (w11 + 1)))
  else
    some (.inr w10)
def t_spec_LongestPause (s_ : Stroke) : Option (Int × Int) :=
  obind (t_spec_l02Stroke s_) fun c5 =>
  bif !c5 then
    some (0, 1)
  else
    bif decide ((((s_.points.getD []).length : Nat) : Int) < 2) then
      some (0, 6)
    else
      obind (loopT (s0_spec_LongestPause s_) (1, 2)) fun q14 =>
      some (wr (q14 - 1), 0)

theorem tl0_spec_LongestPause (env : Nat → Contract) {B : Base} (he_spec_l02Stroke : env n_spec_l02Stroke = .pure (C1 (fun c : Bool => enc c) tp_spec_l02Stroke)) (s_ : Stroke) (o1 : Nat) (c5 : Bool)  {st : Int × Int} {tm : TM} {h : Heap} (R : (fun (st : Int × Int) tm h8 => match st with | (w10, w11) => tm = [AV.agg [Sl.enc s_.points], AV.ptr o1 1 0 0, iv 0, iv 0, iv w10, iv w11, bv c5, bv (!c5), AV.ptr o1 1 0 0, Sl.enc s_.points, iv (((s_.points.getD []).length : Nat) : Int), bv (decide ((((s_.points.getD []).length : Nat) : Int) < 2)), AV.top, AV.top, AV.top, AV.top, AV.top, AV.top, AV.top, AV.top, AV.top, AV.top, AV.top, AV.top, AV.top, AV.top, AV.top, AV.top, AV.top, AV.top, AV.top, AV.top, AV.top, AV.top, AV.top, AV.top, AV.top, AV.top, AV.top, AV.top, AV.top, AV.top, AV.top, AV.top, AV.top, AV.top, AV.top, AV.top, AV.top, und, und] ∧ Hold B h8 [(AV.ptr o1 1 0 0, .pt 1 [Sl.enc s_.points])]) st tm h) : Sim (loopP hm0_spec_LongestPause xm0_spec_LongestPause (lb0_spec_LongestPause env) tm h) (loopT (s0_spec_LongestPause s_) st) (fun (q : Int) (r : Res) => match q with | q14 => ∃ (q15 : Int) (h12 : Heap), r = (.exit 0, [AV.agg [Sl.enc s_.points], AV.ptr o1 1 0 0, iv 0, iv 0, iv q14, iv q15, bv c5, bv (!c5), AV.ptr o1 1 0 0, Sl.enc s_.points, iv (((s_.points.getD []).length : Nat) : Int), bv (decide ((((s_.points.getD []).length : Nat) : Int) < 2)), AV.top, AV.top, AV.top, AV.top, AV.top, AV.top, AV.top, AV.top, AV.top, AV.top, AV.top, AV.top, AV.top, AV.top, AV.top, AV.top, AV.top, AV.top, AV.top, AV.top, AV.top, AV.top, AV.top, AV.top, AV.top, AV.top, AV.top, AV.top, AV.top, AV.top, AV.top, AV.top, AV.top, AV.top, AV.top, AV.top, AV.top, und, und], h12) ∧ Hold B h12 [(AV.ptr o1 1 0 0, .pt 1 [Sl.enc s_.points])]) := by
  refine loop_sim (Rel := fun (st : Int × Int) tm h8 => match st with | (w10, w11) => tm = [AV.agg [Sl.enc s_.points], AV.ptr o1 1 0 0, iv 0, iv 0, iv w10, iv w11, bv c5, bv (!c5), AV.ptr o1 1 0 0, Sl.enc s_.points, iv (((s_.points.getD []).length : Nat) : Int), bv (decide ((((s_.points.getD []).length : Nat) : Int) < 2)), AV.top, AV.top, AV.top, AV.top, AV.top, AV.top, AV.top, AV.top, AV.top, AV.top, AV.top, AV.top, AV.top, AV.top, AV.top, AV.top, AV.top, AV.top, AV.top, AV.top, AV.top, AV.top, AV.top, AV.top, AV.top, AV.top, AV.top, AV.top, AV.top, AV.top, AV.top, AV.top, AV.top, AV.top, AV.top, AV.top, AV.top, und, und] ∧ Hold B h8 [(AV.ptr o1 1 0 0, .pt 1 [Sl.enc s_.points])]) (fun st tm h8 R => ?_) R
  obtain ⟨w10, w11⟩ := st
  obtain ⟨rfl, O9⟩ := R
  rw [e_lb0_spec_LongestPause]
  unfold s0_spec_LongestPause
  dsimp only
  refine sim_let (v := AV.ptr o1 1 0 0) rfl ?_
  refine sim_let (v := Sl.enc s_.points) (O9.ld 0 rfl false 1 0) ?_
  refine sim_let (v := iv (((s_.points.getD []).length : Nat) : Int)) (Tab.enc h8 s_.points).len ?_
  refine sim_let (v := bv (decide (w11 < (((s_.points.getD []).length : Nat) : Int)))) (aBin_lss _ _) ?_
  refine sim_cond (fun c16 => ?_) (fun c16 => ?_)
  · refine sim_let (v := AV.ptr o1 1 0 0) rfl ?_
    refine sim_let (v := Sl.enc s_.points) (O9.ld 0 rfl false 1 0) ?_
    refine sim_get (Tab.enc h8 s_.points) (fun m18 a17 hi19 hm20 => ?_)
    refine sim_let (v := elp (Sl.enc s_.points) m18 2) ((Tab.enc h8 s_.points).fld _ _ _) ?_
    refine sim_let (v := iv a17.t) ((Tab.enc h8 s_.points).ld hm20 false 1 2) ?_
    refine sim_let (v := AV.ptr o1 1 0 0) rfl ?_
    refine sim_let (v := Sl.enc s_.points) (O9.ld 0 rfl false 1 0) ?_
    refine sim_let (v := iv (wr (w11 - 1))) (aBin_sub _ _) ?_
    refine sim_get (Tab.enc h8 s_.points) (fun m22 a21 hi23 hm24 => ?_)
    refine sim_let (v := elp (Sl.enc s_.points) m22 2) ((Tab.enc h8 s_.points).fld _ _ _) ?_
    refine sim_let (v := iv a21.t) ((Tab.enc h8 s_.points).ld hm24 false 1 2) ?_
    refine sim_let (v := iv (wr (a17.t - a21.t))) (aBin_sub _ _) ?_
    refine sim_let (v := AV.ptr o1 1 0 0) rfl ?_
    refine sim_let (v := Sl.enc s_.points) (O9.ld 0 rfl false 1 0) ?_
    refine sim_get (Tab.enc h8 s_.points) (fun m26 a25 hi27 hm28 => ?_)
    refine sim_let (v := elp (Sl.enc s_.points) m26 2) ((Tab.enc h8 s_.points).fld _ _ _) ?_
    refine sim_let (v := iv a25.t) ((Tab.enc h8 s_.points).ld hm28 false 1 2) ?_
    refine sim_let (v := AV.ptr o1 1 0 0) rfl ?_
    refine sim_let (v := Sl.enc s_.points) (O9.ld 0 rfl false 1 0) ?_
    refine sim_let (v := iv (wr (w10 - 1))) (aBin_sub _ _) ?_
    refine sim_get (Tab.enc h8 s_.points) (fun m30 a29 hi31 hm32 => ?_)
    refine sim_let (v := elp (Sl.enc s_.points) m30 2) ((Tab.enc h8 s_.points).fld _ _ _) ?_
    refine sim_let (v := iv a29.t) ((Tab.enc h8 s_.points).ld hm32 false 1 2) ?_
    refine sim_let (v := iv (wr (a25.t - a29.t))) (aBin_sub _ _) ?_
    refine sim_let (v := bv (decide ((wr (a25.t - a29.t)) < (wr (a17.t - a21.t))))) (aBin_gtr _ _) ?_
    refine sim_cond (fun c33 => ?_) (fun c33 => ?_)
    · refine sim_let (v := iv (wr (w11 + 1))) (aBin_add _ _) ?_
      exact sim_ret ⟨rfl, rfl, O9⟩
    · refine sim_let (v := iv (wr (w11 + 1))) (aBin_add _ _) ?_
      exact sim_ret ⟨rfl, rfl, O9⟩
  · exact sim_ret ⟨nofun, _, _, rfl, O9⟩
theorem ts_spec_LongestPause (env : Nat → Contract) (he_spec_l02Stroke : env n_spec_l02Stroke = .pure (C1 (fun c : Bool => enc c) tp_spec_l02Stroke)) (s_ : Stroke) : Sim (denFn Try.prog env n_spec_LongestPause [AV.agg [Sl.enc s_.points]] []) (t_spec_LongestPause s_) fun c p => release p.2 depth p.1 = some ((fun c : Int × Int => AV.tup [enc c.1, enc c.2]) c) := by
  have O := Hold.nil []
  generalize hB : (⟨[], []⟩ : Base) = B at O
  clear hB
  rw [e_spec_LongestPause]
  unfold t_spec_LongestPause
  refine sim_box O (cs := [Sl.enc s_.points]) (by first | rfl | simp) (fun o1 h2 O3 => ?_)
  replace O3 : Hold B h2 [(AV.ptr o1 1 0 0, .pt 1 [Sl.enc s_.points])] := O3
  refine sim_eqO (y' := tp_spec_l02Stroke ⟨[s_], 0⟩) (by simp only [tp_spec_l02Stroke, get_pt1, obind_sm]) ?_
  refine sim_call1 he_spec_l02Stroke (O3.snapRn 0 rfl s_ rfl rfl) (fun c5 => ?_)
  refine sim_let2 (hand_plain (by rfl) _ _) ?_
  refine sim_let (v := bv (!c5)) (aUn_not _) ?_
  refine sim_cond (fun c6 => ?_) (fun c6 => ?_)
  · exact sim_ret (release_plain (by rfl) _)
  · refine sim_let (v := AV.ptr o1 1 0 0) rfl ?_
    refine sim_let (v := Sl.enc s_.points) (O3.ld 0 rfl false 1 0) ?_
    refine sim_let (v := iv (((s_.points.getD []).length : Nat) : Int)) (Tab.enc h2 s_.points).len ?_
    refine sim_let (v := bv (decide ((((s_.points.getD []).length : Nat) : Int) < 2))) (aBin_lss _ _) ?_
    refine sim_cond (fun c7 => ?_) (fun c7 => ?_)
    · exact sim_ret (release_plain (by rfl) _)
    · refine sim_bind ((tl0_spec_LongestPause env he_spec_l02Stroke s_ o1 c5) ⟨rfl, O3⟩) (fun qq38 r hq => ?_)
      revert hq
      revert qq38
      intro q14 hq
      obtain ⟨q15, h12, rfl, O13⟩ := hq
      rw [e_lk0x0_spec_LongestPause]
      refine sim_let (v := iv (wr (q14 - 1))) (aBin_sub _ _) ?_
      exact sim_ret (release_plain (by rfl) _)
theorem tt_spec_LongestPause : PureOK Try.prog n_spec_LongestPause (C1 (fun c : Int × Int => AV.tup [enc c.1, enc c.2]) t_spec_LongestPause) := pureC1 (Econs tt_spec_l02Stroke E0) mixed hb_spec_LongestPause fun s_ => ts_spec_LongestPause _ (by simp [envL]) s_

def t_spec_DrawSameSpots (code_ : Sl UInt8) : Option ((Sl Spot) × (Sl Spot)) :=
  obind (t_spec_l05Stroke (⟨code_, 0, 0⟩ : l00Src)) fun c5 =>
  obind (t_spec_SpotsOf c5.1) fun c19 =>
  obind (appO (some ([] : List Spot)) (c19.1.getD [])) fun _ =>
  bif decide (0 < ((((appS (some ([] : List Spot)) (c19.1.getD [])).getD []).length : Nat) : Int)) then
    obind (t_spec_l00Src_one c5.2 2) fun c41 =>
    bif (bif decide (0 < ((((appS (some ([] : List Spot)) (c19.1.getD [])).getD []).length : Nat) : Int)) then c41.1 else false) then
      obind (t_spec_l00Src_pick c41.2 ((((appS (some ([] : List Spot)) (c19.1.getD [])).getD []).length : Nat) : Int)) fun c48 =>
      obind (getI ((appS (some ([] : List Spot)) (c19.1.getD [])).getD []) c48.1) fun a54 =>
      obind (t_spec_l00Src_pick c48.2 2) fun c58 =>
      obind (getI ((appS (some ([] : List Spot)) (c19.1.getD [])).getD []) c48.1) fun a64 =>
      obind (t_spec_l00Src_one c58.2 6) fun c70 =>
      bif c70.1 then
        obind (appO (setS (appS (some ([] : List Spot)) (c19.1.getD [])) c48.1 (⟨a64.x, wr (a54.y + c58.1)⟩ : Spot)) ([(⟨0, 0⟩ : Spot)] : List Spot)) fun _ =>
        some (c19.1, (appS (setS (appS (some ([] : List Spot)) (c19.1.getD [])) c48.1 (⟨a64.x, wr (a54.y + c58.1)⟩ : Spot)) ([(⟨0, 0⟩ : Spot)] : List Spot)))
      else
        some (c19.1, (setS (appS (some ([] : List Spot)) (c19.1.getD [])) c48.1 (⟨a64.x, wr (a54.y + c58.1)⟩ : Spot)))
    else
      obind (t_spec_l00Src_one c41.2 6) fun c89 =>
      bif c89.1 then
        obind (appO (appS (some ([] : List Spot)) (c19.1.getD [])) ([(⟨0, 0⟩ : Spot)] : List Spot)) fun _ =>
        some (c19.1, (appS (appS (some ([] : List Spot)) (c19.1.getD [])) ([(⟨0, 0⟩ : Spot)] : List Spot)))
      else
        some (c19.1, (appS (some ([] : List Spot)) (c19.1.getD [])))
  else
    obind (t_spec_l00Src_one c5.2 6) fun c108 =>
    bif c108.1 then
      obind (appO (appS (some ([] : List Spot)) (c19.1.getD [])) ([(⟨0, 0⟩ : Spot)] : List Spot)) fun _ =>
      some (c19.1, (appS (appS (some ([] : List Spot)) (c19.1.getD [])) ([(⟨0, 0⟩ : Spot)] : List Spot)))
    else
      some (c19.1, (appS (some ([] : List Spot)) (c19.1.getD [])))

theorem ts_spec_DrawSameSpots (env : Nat → Contract) (he_spec_SpotsOf : env n_spec_SpotsOf = .pure (C1 (fun c : (Sl Spot) × Int => AV.tup [rS c.1, enc c.2]) t_spec_SpotsOf)) (he_spec_l00From : env n_spec_l00From = .pure (C1 fromA (fun q : Sl UInt8 => some q))) (he_spec_l00Src_one : env n_spec_l00Src_one = .gen (denFn Try.prog ev_spec_l00Src_one n_spec_l00Src_one)) (he_spec_l00Src_pick : env n_spec_l00Src_pick = .gen (denFn Try.prog ev_spec_l00Src_pick n_spec_l00Src_pick)) (he_spec_l05Stroke : env n_spec_l05Stroke = .gen (denFn Try.prog ev_spec_l05Stroke n_spec_l05Stroke)) (code_ : Sl UInt8) : Sim (denFnM true Try.prog env n_spec_DrawSameSpots [Sl.enc code_] []) (t_spec_DrawSameSpots code_) fun c p => release p.2 depth p.1 = some ((fun c : (Sl Spot) × (Sl Spot) => AV.tup [rS c.1, rS c.2]) c) := by
  have O := Hold.nil []
  generalize hB : (⟨[], []⟩ : Base) = B at O
  clear hB
  rw [e_spec_DrawSameSpots]
  unfold t_spec_DrawSameSpots
  refine sim_src O he_spec_l00From (snapD_enc _ _) (by first | rfl | exact noRef_enc _) (fun o1 h2 O3 => ?_)
  replace O3 : Hold B h2 [(AV.ptr o1 1 0 0, .pt 3 [Sl.enc code_, iv 0, AV.sc (.int .u64 0)])] := O3
  refine sim_gen he_spec_l05Stroke (tg_spec_l05Stroke (⟨code_, 0, 0⟩ : l00Src) (O3.start (i := 0) rfl rfl)) (fun c5 v6 h7 hq8 => ?_)
  obtain ⟨x11, e_v6, O9⟩ := hq8
  dsimp only at e_v6
  subst v6
  have O10 : Hold B h7 [(AV.ptr o1 1 0 0, .pt 3 [Sl.enc c5.2.code, iv c5.2.pos, AV.sc (.int .u64 c5.2.seed)]), (x11, obS (c5.1.points : Sl Point))] := O3.merge (i := 0) rfl rfl O9
  refine sim_box O10 (cs := [nilS]) (by first | rfl | simp) (fun o13 h14 O15 => ?_)
  replace O15 : Hold B h14 [(AV.ptr o1 1 0 0, .pt 3 [Sl.enc c5.2.code, iv c5.2.pos, AV.sc (.int .u64 c5.2.seed)]), (x11, obS (c5.1.points : Sl Point)), (AV.ptr o13 1 0 0, .pt 1 [nilS])] := O15
  refine sim_store O15 2 (cs' := [x11]) rfl (by first | rfl | simp [(O15.one (A := Point) (s := c5.1.points) 1 rfl).1, (O15.one (A := Point) (s := c5.1.points) 1 rfl).2]) (by simp) (by first | rfl | simp [(O15.one (A := Point) (s := c5.1.points) 1 rfl).1, (O15.one (A := Point) (s := c5.1.points) 1 rfl).2]) (by first | rfl | simp [splice, (O15.one (A := Point) (s := c5.1.points) 1 rfl).1, (O15.one (A := Point) (s := c5.1.points) 1 rfl).2]) (fun h17 O18 => ?_)
  replace O18 : Hold B h17 [(AV.ptr o1 1 0 0, .pt 3 [Sl.enc c5.2.code, iv c5.2.pos, AV.sc (.int .u64 c5.2.seed)]), (x11, obS (c5.1.points : Sl Point)), (AV.ptr o13 1 0 0, .pt 1 [x11])] := O18
  refine sim_let (v := AV.agg [x11]) (O18.ld 2 rfl true 1 0) ?_
  refine sim_call1 he_spec_SpotsOf (snapD_own h17 c5.1 rfl (by simp [omap, O18.snap7 (A := Point) (s := c5.1.points) 1 rfl])) (fun c19 => ?_)
  refine sim_hand1 O18 (c19.1 : Sl Spot) (fun z1 => AV.tup [z1, iv c19.2]) (by intro b; simp only [mat_tup, mat_aggD, mat_agg, matLc, matLn, mat_iv, mat_bv, mat_sv, mat_bt, mat_nilS, mat_rS, List.append_nil, List.nil_append, List.length_nil, Nat.add_zero]) (by simp only [noF_tup, noF_aggD, noF_agg, noF_iv, noF_bv, noF_sv, noF_bt, noF_nilS, noF_rS, List.all_cons, List.all_nil, Bool.and_self]) (fun x21 h22 O23 => ?_)
  replace O23 : Hold B h22 [(AV.ptr o1 1 0 0, .pt 3 [Sl.enc c5.2.code, iv c5.2.pos, AV.sc (.int .u64 c5.2.seed)]), (x11, obS (c5.1.points : Sl Point)), (AV.ptr o13 1 0 0, .pt 1 [x11]), (x21, obS (c19.1 : Sl Spot))] := O23
  refine sim_let (v := x21) rfl ?_
  refine sim_let (v := iv c19.2) rfl ?_
  refine sim_build (A := Spot) O23 ([] : List Spot) rfl (by first | rfl | simp [aFillRows, zrows]) rfl (fun x24 h25 O26 => ?_)
  replace O26 : Hold B h25 [(AV.ptr o1 1 0 0, .pt 3 [Sl.enc c5.2.code, iv c5.2.pos, AV.sc (.int .u64 c5.2.seed)]), (x11, obS (c5.1.points : Sl Point)), (AV.ptr o13 1 0 0, .pt 1 [x11]), (x21, obS (c19.1 : Sl Spot)), (x24, obS ((some ([] : List Spot)) : Sl Spot))] := O26
  refine sim_append (A := Spot) (s := (some ([] : List Spot))) O26 4 (c19.1.getD []) rfl (O26.src (A := Spot) (s := c19.1) 3 rfl) (by decide) (fun x29 h30 O31 => ?_)
  replace O31 : Hold B h30 [(AV.ptr o1 1 0 0, .pt 3 [Sl.enc c5.2.code, iv c5.2.pos, AV.sc (.int .u64 c5.2.seed)]), (x11, obS (c5.1.points : Sl Point)), (AV.ptr o13 1 0 0, .pt 1 [x11]), (x21, obS (c19.1 : Sl Spot)), (x29, obS ((appS (some ([] : List Spot)) (c19.1.getD [])) : Sl Spot))] := O31
  refine sim_let (v := iv ((((appS (some ([] : List Spot)) (c19.1.getD [])).getD []).length : Nat) : Int)) (O31.tab (A := Spot) (s := (appS (some ([] : List Spot)) (c19.1.getD []))) 4 rfl).len ?_
  refine sim_let (v := bv (decide (0 < ((((appS (some ([] : List Spot)) (c19.1.getD [])).getD []).length : Nat) : Int)))) (aBin_gtr _ _) ?_
  refine sim_split (b := decide (0 < ((((appS (some ([] : List Spot)) (c19.1.getD [])).getD []).length : Nat) : Int))) (fun hb40 => ?_) (fun hb40 => ?_)
  · refine sim_gonT hb40 ?_
    refine sim_as2 ?_
    refine sim_gen he_spec_l00Src_one (tg_spec_l00Src_one c5.2 2 (O31.start (i := 0) rfl rfl)) (fun c41 v42 h43 hq44 => ?_)
    obtain ⟨e_v42, O45⟩ := hq44
    dsimp only at e_v42
    subst v42
    have O46 : Hold B h43 [(AV.ptr o1 1 0 0, .pt 3 [Sl.enc c41.2.code, iv c41.2.pos, AV.sc (.int .u64 c41.2.seed)]), (x11, obS (c5.1.points : Sl Point)), (AV.ptr o13 1 0 0, .pt 1 [x11]), (x21, obS (c19.1 : Sl Spot)), (x29, obS ((appS (some ([] : List Spot)) (c19.1.getD [])) : Sl Spot))] := O31.merge (i := 0) rfl rfl O45
    refine sim_sm2 ?_
    refine sim_let (v := bv (bif decide (0 < ((((appS (some ([] : List Spot)) (c19.1.getD [])).getD []).length : Nat) : Int)) then c41.1 else false)) (pick_bb _ _ _) ?_
    refine sim_cond (fun c47 => ?_) (fun c47 => ?_)
    · refine sim_let (v := iv ((((appS (some ([] : List Spot)) (c19.1.getD [])).getD []).length : Nat) : Int)) (O46.tab (A := Spot) (s := (appS (some ([] : List Spot)) (c19.1.getD []))) 4 rfl).len ?_
      refine sim_gen he_spec_l00Src_pick (tg_spec_l00Src_pick c41.2 ((((appS (some ([] : List Spot)) (c19.1.getD [])).getD []).length : Nat) : Int) (O46.start (i := 0) rfl rfl)) (fun c48 v49 h50 hq51 => ?_)
      obtain ⟨e_v49, O52⟩ := hq51
      dsimp only at e_v49
      subst v49
      have O53 : Hold B h50 [(AV.ptr o1 1 0 0, .pt 3 [Sl.enc c48.2.code, iv c48.2.pos, AV.sc (.int .u64 c48.2.seed)]), (x11, obS (c5.1.points : Sl Point)), (AV.ptr o13 1 0 0, .pt 1 [x11]), (x21, obS (c19.1 : Sl Spot)), (x29, obS ((appS (some ([] : List Spot)) (c19.1.getD [])) : Sl Spot))] := O46.merge (i := 0) rfl rfl O52
      refine sim_get (O53.tab (A := Spot) (s := (appS (some ([] : List Spot)) (c19.1.getD []))) 4 rfl) (fun m55 a54 hi56 hm57 => ?_)
      refine sim_let (v := elp x29 m55 1) ((O53.tab (A := Spot) (s := (appS (some ([] : List Spot)) (c19.1.getD []))) 4 rfl).fld _ _ _) ?_
      refine sim_let (v := iv a54.y) ((O53.tab (A := Spot) (s := (appS (some ([] : List Spot)) (c19.1.getD []))) 4 rfl).ld hm57 false 1 1) ?_
      refine sim_gen he_spec_l00Src_pick (tg_spec_l00Src_pick c48.2 2 (O53.start (i := 0) rfl rfl)) (fun c58 v59 h60 hq61 => ?_)
      obtain ⟨e_v59, O62⟩ := hq61
      dsimp only at e_v59
      subst v59
      have O63 : Hold B h60 [(AV.ptr o1 1 0 0, .pt 3 [Sl.enc c58.2.code, iv c58.2.pos, AV.sc (.int .u64 c58.2.seed)]), (x11, obS (c5.1.points : Sl Point)), (AV.ptr o13 1 0 0, .pt 1 [x11]), (x21, obS (c19.1 : Sl Spot)), (x29, obS ((appS (some ([] : List Spot)) (c19.1.getD [])) : Sl Spot))] := O53.merge (i := 0) rfl rfl O62
      refine sim_guardP O62.len ?_
      refine sim_let (v := iv (wr (a54.y + c58.1))) (aBin_add _ _) ?_
      refine sim_get (O63.tab (A := Spot) (s := (appS (some ([] : List Spot)) (c19.1.getD []))) 4 rfl) (fun m65 a64 hi66 hm67 => ?_)
      refine sim_let (v := elp x29 m65 1) ((O63.tab (A := Spot) (s := (appS (some ([] : List Spot)) (c19.1.getD []))) 4 rfl).fld _ _ _) ?_
      refine sim_guardP ⟨⟨(at_of (((O53.tab (A := Spot) (s := (appS (some ([] : List Spot)) (c19.1.getD []))) 4 rfl)).ixm hi56 hm57)), ⟨(at_of (((O63.tab (A := Spot) (s := (appS (some ([] : List Spot)) (c19.1.getD []))) 4 rfl)).ixm hi56 hm57)), trivial⟩⟩, ⟨⟨(at_of (v := iv a54.y) ((O53.tab (A := Spot) (s := (appS (some ([] : List Spot)) (c19.1.getD []))) 4 rfl).ld hm57 false 1 1)), ⟨(at_of (v := iv a54.y) ((O63.tab (A := Spot) (s := (appS (some ([] : List Spot)) (c19.1.getD []))) 4 rfl).ld hm57 false 1 1)), trivial⟩⟩, ⟨⟨(at_of (((O53.tab (A := Spot) (s := (appS (some ([] : List Spot)) (c19.1.getD []))) 4 rfl)).ixm hi66 hm67)), ⟨(at_of (((O63.tab (A := Spot) (s := (appS (some ([] : List Spot)) (c19.1.getD []))) 4 rfl)).ixm hi66 hm67)), trivial⟩⟩, trivial⟩⟩⟩ ?_
      refine sim_set (A := Spot) O63 4 (⟨a64.x, wr (a54.y + c58.1)⟩ : Spot) rfl hi66 hm67 rfl (by simp) (by first | rfl | simp) (by first | rfl | simp [splice]) (fun h68 O69 => ?_)
      replace O69 : Hold B h68 [(AV.ptr o1 1 0 0, .pt 3 [Sl.enc c58.2.code, iv c58.2.pos, AV.sc (.int .u64 c58.2.seed)]), (x11, obS (c5.1.points : Sl Point)), (AV.ptr o13 1 0 0, .pt 1 [x11]), (x21, obS (c19.1 : Sl Spot)), (x29, obS ((setS (appS (some ([] : List Spot)) (c19.1.getD [])) c48.1 (⟨a64.x, wr (a54.y + c58.1)⟩ : Spot)) : Sl Spot))] := O69
      refine sim_guardP trivial ?_
      refine sim_gen he_spec_l00Src_one (tg_spec_l00Src_one c58.2 6 (O69.start (i := 0) rfl rfl)) (fun c70 v71 h72 hq73 => ?_)
      obtain ⟨e_v71, O74⟩ := hq73
      dsimp only at e_v71
      subst v71
      have O75 : Hold B h72 [(AV.ptr o1 1 0 0, .pt 3 [Sl.enc c70.2.code, iv c70.2.pos, AV.sc (.int .u64 c70.2.seed)]), (x11, obS (c5.1.points : Sl Point)), (AV.ptr o13 1 0 0, .pt 1 [x11]), (x21, obS (c19.1 : Sl Spot)), (x29, obS ((setS (appS (some ([] : List Spot)) (c19.1.getD [])) c48.1 (⟨a64.x, wr (a54.y + c58.1)⟩ : Spot)) : Sl Spot))] := O69.merge (i := 0) rfl rfl O74
      refine sim_cond (fun c76 => ?_) (fun c76 => ?_)
      · refine sim_let (v := AV.agg [iv 0, iv 0]) (by first | rfl | simp [aBuild, aFill, splice]) ?_
        refine sim_build (A := Spot) O75 ([(⟨0, 0⟩ : Spot)] : List Spot) rfl (by first | rfl | simp [aFillRows, zrows]) rfl (fun x77 h78 O79 => ?_)
        replace O79 : Hold B h78 [(AV.ptr o1 1 0 0, .pt 3 [Sl.enc c70.2.code, iv c70.2.pos, AV.sc (.int .u64 c70.2.seed)]), (x11, obS (c5.1.points : Sl Point)), (AV.ptr o13 1 0 0, .pt 1 [x11]), (x21, obS (c19.1 : Sl Spot)), (x29, obS ((setS (appS (some ([] : List Spot)) (c19.1.getD [])) c48.1 (⟨a64.x, wr (a54.y + c58.1)⟩ : Spot)) : Sl Spot)), (x77, obS ((some ([(⟨0, 0⟩ : Spot)] : List Spot)) : Sl Spot))] := O79
        refine sim_append (A := Spot) (s := (setS (appS (some ([] : List Spot)) (c19.1.getD [])) c48.1 (⟨a64.x, wr (a54.y + c58.1)⟩ : Spot))) O79 4 ([(⟨0, 0⟩ : Spot)] : List Spot) rfl (O79.src (A := Spot) (s := (some ([(⟨0, 0⟩ : Spot)] : List Spot))) 5 rfl) (by decide) (fun x82 h83 O84 => ?_)
        replace O84 : Hold B h83 [(AV.ptr o1 1 0 0, .pt 3 [Sl.enc c70.2.code, iv c70.2.pos, AV.sc (.int .u64 c70.2.seed)]), (x11, obS (c5.1.points : Sl Point)), (AV.ptr o13 1 0 0, .pt 1 [x11]), (x21, obS (c19.1 : Sl Spot)), (x82, obS ((appS (setS (appS (some ([] : List Spot)) (c19.1.getD [])) c48.1 (⟨a64.x, wr (a54.y + c58.1)⟩ : Spot)) ([(⟨0, 0⟩ : Spot)] : List Spot)) : Sl Spot)), (x77, obS ((some ([(⟨0, 0⟩ : Spot)] : List Spot)) : Sl Spot))] := O84
        have O86 : Hold B h83 [(AV.ptr o1 1 0 0, .pt 3 [Sl.enc c70.2.code, iv c70.2.pos, AV.sc (.int .u64 c70.2.seed)]), (x11, obS (c5.1.points : Sl Point)), (AV.ptr o13 1 0 0, .pt 1 [x11]), (x21, obS (c19.1 : Sl Spot)), (x82, obS ((appS (setS (appS (some ([] : List Spot)) (c19.1.getD [])) c48.1 (⟨a64.x, wr (a54.y + c58.1)⟩ : Spot)) ([(⟨0, 0⟩ : Spot)] : List Spot)) : Sl Spot))] := O84.sel [0, 1, 2, 3, 4] (by decide) rfl
        have O87 : Hold B h83 [(x21, obS (c19.1 : Sl Spot)), (x82, obS ((appS (setS (appS (some ([] : List Spot)) (c19.1.getD [])) c48.1 (⟨a64.x, wr (a54.y + c58.1)⟩ : Spot)) ([(⟨0, 0⟩ : Spot)] : List Spot)) : Sl Spot))] := O86.sel [3, 4] (by decide) rfl
        exact sim_ret (release_of (by simp only [ids_tup, ids_aggD, ids_agg, ids_iv, ids_bv, ids_sv, ids_bt, ids_nilS, ids_enc, O87.idsD (A := Spot) (s := c19.1) 0 rfl, O87.idsD (A := Spot) (s := (appS (setS (appS (some ([] : List Spot)) (c19.1.getD [])) c48.1 (⟨a64.x, wr (a54.y + c58.1)⟩ : Spot)) ([(⟨0, 0⟩ : Spot)] : List Spot))) 1 rfl, List.map_append, List.map_nil, List.flatMap_cons, List.flatMap_nil, List.append_nil, List.nil_append]; simpa only [List.flatMap_cons, List.flatMap_nil, List.append_nil, List.nil_append] using O87.nd2) (by simp only [rel_tup, rel_aggD, rel_agg, rel_iv, rel_bv, rel_sv, rel_bt, rel_nilS, rel_enc, O87.relD (A := Spot) (s := c19.1) 0 rfl, O87.relD (A := Spot) (s := (appS (setS (appS (some ([] : List Spot)) (c19.1.getD [])) c48.1 (⟨a64.x, wr (a54.y + c58.1)⟩ : Spot)) ([(⟨0, 0⟩ : Spot)] : List Spot))) 1 rfl, omapc, omapn, obind_sm] <;> rfl))
      · have O88 : Hold B h72 [(x21, obS (c19.1 : Sl Spot)), (x29, obS ((setS (appS (some ([] : List Spot)) (c19.1.getD [])) c48.1 (⟨a64.x, wr (a54.y + c58.1)⟩ : Spot)) : Sl Spot))] := O75.sel [3, 4] (by decide) rfl
        exact sim_ret (release_of (by simp only [ids_tup, ids_aggD, ids_agg, ids_iv, ids_bv, ids_sv, ids_bt, ids_nilS, ids_enc, O88.idsD (A := Spot) (s := c19.1) 0 rfl, O88.idsD (A := Spot) (s := (setS (appS (some ([] : List Spot)) (c19.1.getD [])) c48.1 (⟨a64.x, wr (a54.y + c58.1)⟩ : Spot))) 1 rfl, List.map_append, List.map_nil, List.flatMap_cons, List.flatMap_nil, List.append_nil, List.nil_append]; simpa only [List.flatMap_cons, List.flatMap_nil, List.append_nil, List.nil_append] using O88.nd2) (by simp only [rel_tup, rel_aggD, rel_agg, rel_iv, rel_bv, rel_sv, rel_bt, rel_nilS, rel_enc, O88.relD (A := Spot) (s := c19.1) 0 rfl, O88.relD (A := Spot) (s := (setS (appS (some ([] : List Spot)) (c19.1.getD [])) c48.1 (⟨a64.x, wr (a54.y + c58.1)⟩ : Spot))) 1 rfl, omapc, omapn, obind_sm] <;> rfl))
    · refine sim_gen he_spec_l00Src_one (tg_spec_l00Src_one c41.2 6 (O46.start (i := 0) rfl rfl)) (fun c89 v90 h91 hq92 => ?_)
      obtain ⟨e_v90, O93⟩ := hq92
      dsimp only at e_v90
      subst v90
      have O94 : Hold B h91 [(AV.ptr o1 1 0 0, .pt 3 [Sl.enc c89.2.code, iv c89.2.pos, AV.sc (.int .u64 c89.2.seed)]), (x11, obS (c5.1.points : Sl Point)), (AV.ptr o13 1 0 0, .pt 1 [x11]), (x21, obS (c19.1 : Sl Spot)), (x29, obS ((appS (some ([] : List Spot)) (c19.1.getD [])) : Sl Spot))] := O46.merge (i := 0) rfl rfl O93
      refine sim_cond (fun c95 => ?_) (fun c95 => ?_)
      · refine sim_let (v := AV.agg [iv 0, iv 0]) (by first | rfl | simp [aBuild, aFill, splice]) ?_
        refine sim_build (A := Spot) O94 ([(⟨0, 0⟩ : Spot)] : List Spot) rfl (by first | rfl | simp [aFillRows, zrows]) rfl (fun x96 h97 O98 => ?_)
        replace O98 : Hold B h97 [(AV.ptr o1 1 0 0, .pt 3 [Sl.enc c89.2.code, iv c89.2.pos, AV.sc (.int .u64 c89.2.seed)]), (x11, obS (c5.1.points : Sl Point)), (AV.ptr o13 1 0 0, .pt 1 [x11]), (x21, obS (c19.1 : Sl Spot)), (x29, obS ((appS (some ([] : List Spot)) (c19.1.getD [])) : Sl Spot)), (x96, obS ((some ([(⟨0, 0⟩ : Spot)] : List Spot)) : Sl Spot))] := O98
        refine sim_append (A := Spot) (s := (appS (some ([] : List Spot)) (c19.1.getD []))) O98 4 ([(⟨0, 0⟩ : Spot)] : List Spot) rfl (O98.src (A := Spot) (s := (some ([(⟨0, 0⟩ : Spot)] : List Spot))) 5 rfl) (by decide) (fun x101 h102 O103 => ?_)
        replace O103 : Hold B h102 [(AV.ptr o1 1 0 0, .pt 3 [Sl.enc c89.2.code, iv c89.2.pos, AV.sc (.int .u64 c89.2.seed)]), (x11, obS (c5.1.points : Sl Point)), (AV.ptr o13 1 0 0, .pt 1 [x11]), (x21, obS (c19.1 : Sl Spot)), (x101, obS ((appS (appS (some ([] : List Spot)) (c19.1.getD [])) ([(⟨0, 0⟩ : Spot)] : List Spot)) : Sl Spot)), (x96, obS ((some ([(⟨0, 0⟩ : Spot)] : List Spot)) : Sl Spot))] := O103
        have O105 : Hold B h102 [(AV.ptr o1 1 0 0, .pt 3 [Sl.enc c89.2.code, iv c89.2.pos, AV.sc (.int .u64 c89.2.seed)]), (x11, obS (c5.1.points : Sl Point)), (AV.ptr o13 1 0 0, .pt 1 [x11]), (x21, obS (c19.1 : Sl Spot)), (x101, obS ((appS (appS (some ([] : List Spot)) (c19.1.getD [])) ([(⟨0, 0⟩ : Spot)] : List Spot)) : Sl Spot))] := O103.sel [0, 1, 2, 3, 4] (by decide) rfl
        have O106 : Hold B h102 [(x21, obS (c19.1 : Sl Spot)), (x101, obS ((appS (appS (some ([] : List Spot)) (c19.1.getD [])) ([(⟨0, 0⟩ : Spot)] : List Spot)) : Sl Spot))] := O105.sel [3, 4] (by decide) rfl
        exact sim_ret (release_of (by simp only [ids_tup, ids_aggD, ids_agg, ids_iv, ids_bv, ids_sv, ids_bt, ids_nilS, ids_enc, O106.idsD (A := Spot) (s := c19.1) 0 rfl, O106.idsD (A := Spot) (s := (appS (appS (some ([] : List Spot)) (c19.1.getD [])) ([(⟨0, 0⟩ : Spot)] : List Spot))) 1 rfl, List.map_append, List.map_nil, List.flatMap_cons, List.flatMap_nil, List.append_nil, List.nil_append]; simpa only [List.flatMap_cons, List.flatMap_nil, List.append_nil, List.nil_append] using O106.nd2) (by simp only [rel_tup, rel_aggD, rel_agg, rel_iv, rel_bv, rel_sv, rel_bt, rel_nilS, rel_enc, O106.relD (A := Spot) (s := c19.1) 0 rfl, O106.relD (A := Spot) (s := (appS (appS (some ([] : List Spot)) (c19.1.getD [])) ([(⟨0, 0⟩ : Spot)] : List Spot))) 1 rfl, omapc, omapn, obind_sm] <;> rfl))
      · have O107 : Hold B h91 [(x21, obS (c19.1 : Sl Spot)), (x29, obS ((appS (some ([] : List Spot)) (c19.1.getD [])) : Sl Spot))] := O94.sel [3, 4] (by decide) rfl
        exact sim_ret (release_of (by simp only [ids_tup, ids_aggD, ids_agg, ids_iv, ids_bv, ids_sv, ids_bt, ids_nilS, ids_enc, O107.idsD (A := Spot) (s := c19.1) 0 rfl, O107.idsD (A := Spot) (s := (appS (some ([] : List Spot)) (c19.1.getD []))) 1 rfl, List.map_append, List.map_nil, List.flatMap_cons, List.flatMap_nil, List.append_nil, List.nil_append]; simpa only [List.flatMap_cons, List.flatMap_nil, List.append_nil, List.nil_append] using O107.nd2) (by simp only [rel_tup, rel_aggD, rel_agg, rel_iv, rel_bv, rel_sv, rel_bt, rel_nilS, rel_enc, O107.relD (A := Spot) (s := c19.1) 0 rfl, O107.relD (A := Spot) (s := (appS (some ([] : List Spot)) (c19.1.getD []))) 1 rfl, omapc, omapn, obind_sm] <;> rfl))
  · refine sim_goffT hb40 ?_
    refine sim_pickN hb40 ?_
    refine sim_gen he_spec_l00Src_one (tg_spec_l00Src_one c5.2 6 (O31.start (i := 0) rfl rfl)) (fun c108 v109 h110 hq111 => ?_)
    obtain ⟨e_v109, O112⟩ := hq111
    dsimp only at e_v109
    subst v109
    have O113 : Hold B h110 [(AV.ptr o1 1 0 0, .pt 3 [Sl.enc c108.2.code, iv c108.2.pos, AV.sc (.int .u64 c108.2.seed)]), (x11, obS (c5.1.points : Sl Point)), (AV.ptr o13 1 0 0, .pt 1 [x11]), (x21, obS (c19.1 : Sl Spot)), (x29, obS ((appS (some ([] : List Spot)) (c19.1.getD [])) : Sl Spot))] := O31.merge (i := 0) rfl rfl O112
    refine sim_cond (fun c114 => ?_) (fun c114 => ?_)
    · refine sim_let (v := AV.agg [iv 0, iv 0]) (by first | rfl | simp [aBuild, aFill, splice]) ?_
      refine sim_build (A := Spot) O113 ([(⟨0, 0⟩ : Spot)] : List Spot) rfl (by first | rfl | simp [aFillRows, zrows]) rfl (fun x115 h116 O117 => ?_)
      replace O117 : Hold B h116 [(AV.ptr o1 1 0 0, .pt 3 [Sl.enc c108.2.code, iv c108.2.pos, AV.sc (.int .u64 c108.2.seed)]), (x11, obS (c5.1.points : Sl Point)), (AV.ptr o13 1 0 0, .pt 1 [x11]), (x21, obS (c19.1 : Sl Spot)), (x29, obS ((appS (some ([] : List Spot)) (c19.1.getD [])) : Sl Spot)), (x115, obS ((some ([(⟨0, 0⟩ : Spot)] : List Spot)) : Sl Spot))] := O117
      refine sim_append (A := Spot) (s := (appS (some ([] : List Spot)) (c19.1.getD []))) O117 4 ([(⟨0, 0⟩ : Spot)] : List Spot) rfl (O117.src (A := Spot) (s := (some ([(⟨0, 0⟩ : Spot)] : List Spot))) 5 rfl) (by decide) (fun x120 h121 O122 => ?_)
      replace O122 : Hold B h121 [(AV.ptr o1 1 0 0, .pt 3 [Sl.enc c108.2.code, iv c108.2.pos, AV.sc (.int .u64 c108.2.seed)]), (x11, obS (c5.1.points : Sl Point)), (AV.ptr o13 1 0 0, .pt 1 [x11]), (x21, obS (c19.1 : Sl Spot)), (x120, obS ((appS (appS (some ([] : List Spot)) (c19.1.getD [])) ([(⟨0, 0⟩ : Spot)] : List Spot)) : Sl Spot)), (x115, obS ((some ([(⟨0, 0⟩ : Spot)] : List Spot)) : Sl Spot))] := O122
      have O124 : Hold B h121 [(AV.ptr o1 1 0 0, .pt 3 [Sl.enc c108.2.code, iv c108.2.pos, AV.sc (.int .u64 c108.2.seed)]), (x11, obS (c5.1.points : Sl Point)), (AV.ptr o13 1 0 0, .pt 1 [x11]), (x21, obS (c19.1 : Sl Spot)), (x120, obS ((appS (appS (some ([] : List Spot)) (c19.1.getD [])) ([(⟨0, 0⟩ : Spot)] : List Spot)) : Sl Spot))] := O122.sel [0, 1, 2, 3, 4] (by decide) rfl
      have O125 : Hold B h121 [(x21, obS (c19.1 : Sl Spot)), (x120, obS ((appS (appS (some ([] : List Spot)) (c19.1.getD [])) ([(⟨0, 0⟩ : Spot)] : List Spot)) : Sl Spot))] := O124.sel [3, 4] (by decide) rfl
      exact sim_ret (release_of (by simp only [ids_tup, ids_aggD, ids_agg, ids_iv, ids_bv, ids_sv, ids_bt, ids_nilS, ids_enc, O125.idsD (A := Spot) (s := c19.1) 0 rfl, O125.idsD (A := Spot) (s := (appS (appS (some ([] : List Spot)) (c19.1.getD [])) ([(⟨0, 0⟩ : Spot)] : List Spot))) 1 rfl, List.map_append, List.map_nil, List.flatMap_cons, List.flatMap_nil, List.append_nil, List.nil_append]; simpa only [List.flatMap_cons, List.flatMap_nil, List.append_nil, List.nil_append] using O125.nd2) (by simp only [rel_tup, rel_aggD, rel_agg, rel_iv, rel_bv, rel_sv, rel_bt, rel_nilS, rel_enc, O125.relD (A := Spot) (s := c19.1) 0 rfl, O125.relD (A := Spot) (s := (appS (appS (some ([] : List Spot)) (c19.1.getD [])) ([(⟨0, 0⟩ : Spot)] : List Spot))) 1 rfl, omapc, omapn, obind_sm] <;> rfl))
    · have O126 : Hold B h110 [(x21, obS (c19.1 : Sl Spot)), (x29, obS ((appS (some ([] : List Spot)) (c19.1.getD [])) : Sl Spot))] := O113.sel [3, 4] (by decide) rfl
      exact sim_ret (release_of (by simp only [ids_tup, ids_aggD, ids_agg, ids_iv, ids_bv, ids_sv, ids_bt, ids_nilS, ids_enc, O126.idsD (A := Spot) (s := c19.1) 0 rfl, O126.idsD (A := Spot) (s := (appS (some ([] : List Spot)) (c19.1.getD []))) 1 rfl, List.map_append, List.map_nil, List.flatMap_cons, List.flatMap_nil, List.append_nil, List.nil_append]; simpa only [List.flatMap_cons, List.flatMap_nil, List.append_nil, List.nil_append] using O126.nd2) (by simp only [rel_tup, rel_aggD, rel_agg, rel_iv, rel_bv, rel_sv, rel_bt, rel_nilS, rel_enc, O126.relD (A := Spot) (s := c19.1) 0 rfl, O126.relD (A := Spot) (s := (appS (some ([] : List Spot)) (c19.1.getD []))) 1 rfl, omapc, omapn, obind_sm] <;> rfl))
theorem tt_spec_DrawSameSpots : PureOK Try.prog n_spec_DrawSameSpots (C1 (fun c : (Sl Spot) × (Sl Spot) => AV.tup [rS c.1, rS c.2]) t_spec_DrawSameSpots) := pureCW1 (Econs tt_spec_SpotsOf (Econs tt_spec_l00From (EconsG (gen_of_den eo_spec_l00Src_one mixed hb_spec_l00Src_one) (EconsG (gen_of_den eo_spec_l00Src_pick mixed hb_spec_l00Src_pick) (EconsG (gen_of_den eo_spec_l05Stroke mixed hb_spec_l05Stroke) E0))))) mixed hb_spec_DrawSameSpots fun code_ => ts_spec_DrawSameSpots _ (by simp [envL]) (by simp [envL]) (by simp [envL]) (by simp [envL]) (by simp [envL]) code_

def s0_spec_l06Same (a_ : Sl Spot) (b_ : Sl Spot) : Int → Option (Sum Int (Sum Unit Bool)) := fun w4 =>
  bif decide (w4 < (((a_.getD []).length : Nat) : Int)) then
    obind (getI (a_.getD []) w4) fun a14 =>
    obind (getI (b_.getD []) w4) fun a18 =>
    bif !decide (a14 = a18) then
      some (.inr (.inr false))
    else
      some (.inl (wr (w4 + 1)))
  else
    some (.inr (.inl ()))
def t_spec_l06Same (a_ : Sl Spot) (b_ : Sl Spot) : Option Bool :=
  bif !decide ((((a_.getD []).length : Nat) : Int) = (((b_.getD []).length : Nat) : Int)) then
    some false
  else
    obind (loopT (s0_spec_l06Same a_ b_) 0) fun qq27 => match qq27 with
    | (.inl _) =>
        some true
    | (.inr q11) =>
        some q11

theorem tl0_spec_l06Same (env : Nat → Contract) {B : Base}  (a_ : Sl Spot) (b_ : Sl Spot)  {st : Int} {tm : TM} {h : Heap} (R : (fun (st : Int) tm h2 => match st with | w4 => tm = [Sl.enc a_, Sl.enc b_, und, und, AV.top, iv w4, Sl.enc a_, iv (((a_.getD []).length : Nat) : Int), Sl.enc b_, iv (((b_.getD []).length : Nat) : Int), bv (!decide ((((a_.getD []).length : Nat) : Int) = (((b_.getD []).length : Nat) : Int))), AV.top, AV.top, AV.top, AV.top, AV.top, AV.top, AV.top, AV.top, AV.top, AV.top, AV.top, AV.top, AV.top, AV.top, AV.top] ∧ Hold B h2 []) st tm h) : Sim (loopP hm0_spec_l06Same xm0_spec_l06Same (lb0_spec_l06Same env) tm h) (loopT (s0_spec_l06Same a_ b_) st) (fun (q : Sum Unit Bool) (r : Res) => match q with | .inl _ => ∃ (q8 : Int) (z7 : AV) (h5 : Heap), r = (.exit 0, [Sl.enc a_, Sl.enc b_, und, und, z7, iv q8, Sl.enc a_, iv (((a_.getD []).length : Nat) : Int), Sl.enc b_, iv (((b_.getD []).length : Nat) : Int), bv (!decide ((((a_.getD []).length : Nat) : Int) = (((b_.getD []).length : Nat) : Int))), AV.top, AV.top, AV.top, AV.top, AV.top, AV.top, AV.top, AV.top, AV.top, AV.top, AV.top, AV.top, AV.top, AV.top, AV.top], h5) ∧ Hold B h5 [] | .inr q11 => ∃ (q12 : Int) (h9 : Heap), r = (.ret, [Sl.enc a_, Sl.enc b_, und, und, bv q11, iv q12, Sl.enc a_, iv (((a_.getD []).length : Nat) : Int), Sl.enc b_, iv (((b_.getD []).length : Nat) : Int), bv (!decide ((((a_.getD []).length : Nat) : Int) = (((b_.getD []).length : Nat) : Int))), AV.top, AV.top, AV.top, AV.top, AV.top, AV.top, AV.top, AV.top, AV.top, AV.top, AV.top, AV.top, AV.top, AV.top, AV.top], h9) ∧ Hold B h9 []) := by
  refine loop_sim (Rel := fun (st : Int) tm h2 => match st with | w4 => tm = [Sl.enc a_, Sl.enc b_, und, und, AV.top, iv w4, Sl.enc a_, iv (((a_.getD []).length : Nat) : Int), Sl.enc b_, iv (((b_.getD []).length : Nat) : Int), bv (!decide ((((a_.getD []).length : Nat) : Int) = (((b_.getD []).length : Nat) : Int))), AV.top, AV.top, AV.top, AV.top, AV.top, AV.top, AV.top, AV.top, AV.top, AV.top, AV.top, AV.top, AV.top, AV.top, AV.top] ∧ Hold B h2 []) (fun w4 tm h2 R => ?_) R
  obtain ⟨rfl, O3⟩ := R
  rw [e_lb0_spec_l06Same]
  unfold s0_spec_l06Same
  dsimp only
  refine sim_let (v := iv (((a_.getD []).length : Nat) : Int)) (Tab.enc h2 a_).len ?_
  refine sim_let (v := bv (decide (w4 < (((a_.getD []).length : Nat) : Int)))) (aBin_lss _ _) ?_
  refine sim_cond (fun c13 => ?_) (fun c13 => ?_)
  · refine sim_get (Tab.enc h2 a_) (fun m15 a14 hi16 hm17 => ?_)
    refine sim_let (v := AV.agg [iv a14.x, iv a14.y]) ((Tab.enc h2 a_).ld hm17 true 2 0) ?_
    refine sim_get (Tab.enc h2 b_) (fun m19 a18 hi20 hm21 => ?_)
    refine sim_let (v := AV.agg [iv a18.x, iv a18.y]) ((Tab.enc h2 b_).ld hm21 true 2 0) ?_
    refine sim_let (v := bv (!decide (a14 = a18))) (aCmp_Spot a14 a18).2 ?_
    refine sim_cond (fun c22 => ?_) (fun c22 => ?_)
    · exact sim_ret ⟨nofun, _, _, rfl, O3⟩
    · refine sim_let (v := iv (wr (w4 + 1))) (aBin_add _ _) ?_
      exact sim_ret ⟨rfl, rfl, O3⟩
  · exact sim_ret ⟨nofun, _, _, _, rfl, O3⟩
theorem ts_spec_l06Same (env : Nat → Contract)  (a_ : Sl Spot) (b_ : Sl Spot) : Sim (denFn Try.prog env n_spec_l06Same [Sl.enc a_, Sl.enc b_] []) (t_spec_l06Same a_ b_) fun c p => release p.2 depth p.1 = some ((fun c : Bool => enc c) c) := by
  have O := Hold.nil []
  generalize hB : (⟨[], []⟩ : Base) = B at O
  clear hB
  rw [e_spec_l06Same]
  unfold t_spec_l06Same
  refine sim_let (v := iv (((a_.getD []).length : Nat) : Int)) (Tab.enc [] a_).len ?_
  refine sim_let (v := iv (((b_.getD []).length : Nat) : Int)) (Tab.enc [] b_).len ?_
  refine sim_let (v := bv (!decide ((((a_.getD []).length : Nat) : Int) = (((b_.getD []).length : Nat) : Int)))) (aCmp_ne _ _) ?_
  refine sim_cond (fun c1 => ?_) (fun c1 => ?_)
  · exact sim_ret (release_plain (by rfl) _)
  · refine sim_bind ((tl0_spec_l06Same env a_ b_) ⟨rfl, O⟩) (fun qq27 r hq => ?_)
    rcases qq27 with _ | q11
    · obtain ⟨q8, z7, h5, rfl, O6⟩ := hq
      rw [e_lk0x0_spec_l06Same]
      exact sim_ret (release_plain (by rfl) _)
    · obtain ⟨q12, h9, rfl, O10⟩ := hq
      rw [e_lk0r_spec_l06Same]
      exact sim_ret (release_plain (by rfl) _)
theorem tt_spec_l06Same : PureOK Try.prog n_spec_l06Same (C2 (fun c : Bool => enc c) t_spec_l06Same) := pureC2 E0 mixed hb_spec_l06Same fun a_ b_ => ts_spec_l06Same _  a_ b_

def t_spec_SameSpots (a_ : Sl Spot) (b_ : Sl Spot) : Option Bool :=
  obind (t_spec_l06Same a_ b_) fun c1 =>
  some c1

theorem ts_spec_SameSpots (env : Nat → Contract) (he_spec_l06Same : env n_spec_l06Same = .pure (C2 (fun c : Bool => enc c) t_spec_l06Same)) (a_ : Sl Spot) (b_ : Sl Spot) : Sim (denFn Try.prog env n_spec_SameSpots [Sl.enc a_, Sl.enc b_] []) (t_spec_SameSpots a_ b_) fun c p => release p.2 depth p.1 = some ((fun c : Bool => enc c) c) := by
  have O := Hold.nil []
  generalize hB : (⟨[], []⟩ : Base) = B at O
  clear hB
  rw [e_spec_SameSpots]
  unfold t_spec_SameSpots
  refine sim_call2 he_spec_l06Same (snapD_enc _ _) (snapD_enc _ _) (fun c1 => ?_)
  refine sim_let2 (hand_plain (by rfl) _ _) ?_
  exact sim_ret (release_plain (by rfl) _)
theorem tt_spec_SameSpots : PureOK Try.prog n_spec_SameSpots (C2 (fun c : Bool => enc c) t_spec_SameSpots) := pureC2 (Econs tt_spec_l06Same E0) mixed hb_spec_SameSpots fun a_ b_ => ts_spec_SameSpots _ (by simp [envL]) a_ b_

def s0_slices_Equal_impl_Spot_impl_Spot (s1_ : Sl Spot) (s2_ : Sl Spot) : Int → Option (Sum Int (Sum Unit Bool)) := fun w4 =>
  bif decide (w4 < (((s1_.getD []).length : Nat) : Int)) then
    obind (getI (s1_.getD []) w4) fun a14 =>
    obind (getI (s2_.getD []) w4) fun a18 =>
    bif !decide (a14 = a18) then
      some (.inr (.inr false))
    else
      some (.inl (wr (w4 + 1)))
  else
    some (.inr (.inl ()))
def t_slices_Equal_impl_Spot_impl_Spot (s1_ : Sl Spot) (s2_ : Sl Spot) : Option Bool :=
  bif !decide ((((s1_.getD []).length : Nat) : Int) = (((s2_.getD []).length : Nat) : Int)) then
    some false
  else
    obind (loopT (s0_slices_Equal_impl_Spot_impl_Spot s1_ s2_) 0) fun qq27 => match qq27 with
    | (.inl _) =>
        some true
    | (.inr q11) =>
        some q11

theorem tl0_slices_Equal_impl_Spot_impl_Spot (env : Nat → Contract) {B : Base}  (s1_ : Sl Spot) (s2_ : Sl Spot)  {st : Int} {tm : TM} {h : Heap} (R : (fun (st : Int) tm h2 => match st with | w4 => tm = [Sl.enc s1_, Sl.enc s2_, und, und, AV.top, AV.top, Sl.enc s1_, iv (((s1_.getD []).length : Nat) : Int), Sl.enc s2_, iv (((s2_.getD []).length : Nat) : Int), bv (!decide ((((s1_.getD []).length : Nat) : Int) = (((s2_.getD []).length : Nat) : Int))), Sl.enc s1_, iv (((s1_.getD []).length : Nat) : Int), iv w4, AV.top, AV.top, AV.top, AV.top, AV.top, AV.top, AV.top, AV.top, AV.top, AV.top, AV.top, AV.top] ∧ Hold B h2 []) st tm h) : Sim (loopP hm0_slices_Equal_impl_Spot_impl_Spot xm0_slices_Equal_impl_Spot_impl_Spot (lb0_slices_Equal_impl_Spot_impl_Spot env) tm h) (loopT (s0_slices_Equal_impl_Spot_impl_Spot s1_ s2_) st) (fun (q : Sum Unit Bool) (r : Res) => match q with | .inl _ => ∃ (z7 : AV) (z8 : AV) (h5 : Heap), r = (.exit 0, [Sl.enc s1_, Sl.enc s2_, und, und, z7, z8, Sl.enc s1_, iv (((s1_.getD []).length : Nat) : Int), Sl.enc s2_, iv (((s2_.getD []).length : Nat) : Int), bv (!decide ((((s1_.getD []).length : Nat) : Int) = (((s2_.getD []).length : Nat) : Int))), Sl.enc s1_, iv (((s1_.getD []).length : Nat) : Int), AV.top, AV.top, AV.top, AV.top, AV.top, AV.top, AV.top, AV.top, AV.top, AV.top, AV.top, AV.top, AV.top], h5) ∧ Hold B h5 [] | .inr q11 => ∃ (q12 : Int) (h9 : Heap), r = (.ret, [Sl.enc s1_, Sl.enc s2_, und, und, bv q11, iv q12, Sl.enc s1_, iv (((s1_.getD []).length : Nat) : Int), Sl.enc s2_, iv (((s2_.getD []).length : Nat) : Int), bv (!decide ((((s1_.getD []).length : Nat) : Int) = (((s2_.getD []).length : Nat) : Int))), Sl.enc s1_, iv (((s1_.getD []).length : Nat) : Int), AV.top, AV.top, AV.top, AV.top, AV.top, AV.top, AV.top, AV.top, AV.top, AV.top, AV.top, AV.top, AV.top], h9) ∧ Hold B h9 []) := by
  refine loop_sim (Rel := fun (st : Int) tm h2 => match st with | w4 => tm = [Sl.enc s1_, Sl.enc s2_, und, und, AV.top, AV.top, Sl.enc s1_, iv (((s1_.getD []).length : Nat) : Int), Sl.enc s2_, iv (((s2_.getD []).length : Nat) : Int), bv (!decide ((((s1_.getD []).length : Nat) : Int) = (((s2_.getD []).length : Nat) : Int))), Sl.enc s1_, iv (((s1_.getD []).length : Nat) : Int), iv w4, AV.top, AV.top, AV.top, AV.top, AV.top, AV.top, AV.top, AV.top, AV.top, AV.top, AV.top, AV.top] ∧ Hold B h2 []) (fun w4 tm h2 R => ?_) R
  obtain ⟨rfl, O3⟩ := R
  rw [e_lb0_slices_Equal_impl_Spot_impl_Spot]
  unfold s0_slices_Equal_impl_Spot_impl_Spot
  dsimp only
  refine sim_let (v := bv (decide (w4 < (((s1_.getD []).length : Nat) : Int)))) (aBin_lss _ _) ?_
  refine sim_cond (fun c13 => ?_) (fun c13 => ?_)
  · refine sim_get (Tab.enc h2 s1_) (fun m15 a14 hi16 hm17 => ?_)
    refine sim_let (v := AV.agg [iv a14.x, iv a14.y]) ((Tab.enc h2 s1_).ld hm17 true 2 0) ?_
    refine sim_get (Tab.enc h2 s2_) (fun m19 a18 hi20 hm21 => ?_)
    refine sim_let (v := AV.agg [iv a18.x, iv a18.y]) ((Tab.enc h2 s2_).ld hm21 true 2 0) ?_
    refine sim_let (v := bv (!decide (a14 = a18))) (aCmp_Spot a14 a18).2 ?_
    refine sim_cond (fun c22 => ?_) (fun c22 => ?_)
    · exact sim_ret ⟨nofun, _, _, rfl, O3⟩
    · refine sim_let (v := iv (wr (w4 + 1))) (aBin_add _ _) ?_
      exact sim_ret ⟨rfl, rfl, O3⟩
  · exact sim_ret ⟨nofun, _, _, _, rfl, O3⟩
theorem ts_slices_Equal_impl_Spot_impl_Spot (env : Nat → Contract)  (s1_ : Sl Spot) (s2_ : Sl Spot) : Sim (denFn Try.prog env n_slices_Equal_impl_Spot_impl_Spot [Sl.enc s1_, Sl.enc s2_] []) (t_slices_Equal_impl_Spot_impl_Spot s1_ s2_) fun c p => release p.2 depth p.1 = some ((fun c : Bool => enc c) c) := by
  have O := Hold.nil []
  generalize hB : (⟨[], []⟩ : Base) = B at O
  clear hB
  rw [e_slices_Equal_impl_Spot_impl_Spot]
  unfold t_slices_Equal_impl_Spot_impl_Spot
  refine sim_let (v := iv (((s1_.getD []).length : Nat) : Int)) (Tab.enc [] s1_).len ?_
  refine sim_let (v := iv (((s2_.getD []).length : Nat) : Int)) (Tab.enc [] s2_).len ?_
  refine sim_let (v := bv (!decide ((((s1_.getD []).length : Nat) : Int) = (((s2_.getD []).length : Nat) : Int)))) (aCmp_ne _ _) ?_
  refine sim_cond (fun c1 => ?_) (fun c1 => ?_)
  · exact sim_ret (release_plain (by rfl) _)
  · refine sim_let (v := iv (((s1_.getD []).length : Nat) : Int)) (Tab.enc [] s1_).len ?_
    refine sim_bind ((tl0_slices_Equal_impl_Spot_impl_Spot env s1_ s2_) ⟨rfl, O⟩) (fun qq27 r hq => ?_)
    rcases qq27 with _ | q11
    · obtain ⟨z7, z8, h5, rfl, O6⟩ := hq
      rw [e_lk0x0_slices_Equal_impl_Spot_impl_Spot]
      exact sim_ret (release_plain (by rfl) _)
    · obtain ⟨q12, h9, rfl, O10⟩ := hq
      rw [e_lk0r_slices_Equal_impl_Spot_impl_Spot]
      exact sim_ret (release_plain (by rfl) _)
theorem tt_slices_Equal_impl_Spot_impl_Spot : PureOK Try.prog n_slices_Equal_impl_Spot_impl_Spot (C2 (fun c : Bool => enc c) t_slices_Equal_impl_Spot_impl_Spot) := pureC2 E0 mixed hb_slices_Equal_impl_Spot_impl_Spot fun s1_ s2_ => ts_slices_Equal_impl_Spot_impl_Spot _  s1_ s2_

def t_impl_SameSpots (a_ : Sl Spot) (b_ : Sl Spot) : Option Bool :=
  obind (t_slices_Equal_impl_Spot_impl_Spot a_ b_) fun c1 =>
  some c1

theorem ts_impl_SameSpots (env : Nat → Contract) (he_slices_Equal_impl_Spot_impl_Spot : env n_slices_Equal_impl_Spot_impl_Spot = .pure (C2 (fun c : Bool => enc c) t_slices_Equal_impl_Spot_impl_Spot)) (a_ : Sl Spot) (b_ : Sl Spot) : Sim (denFn Try.prog env n_impl_SameSpots [Sl.enc a_, Sl.enc b_] []) (t_impl_SameSpots a_ b_) fun c p => release p.2 depth p.1 = some ((fun c : Bool => enc c) c) := by
  have O := Hold.nil []
  generalize hB : (⟨[], []⟩ : Base) = B at O
  clear hB
  rw [e_impl_SameSpots]
  unfold t_impl_SameSpots
  refine sim_call2 he_slices_Equal_impl_Spot_impl_Spot (snapD_enc _ _) (snapD_enc _ _) (fun c1 => ?_)
  refine sim_let2 (hand_plain (by rfl) _ _) ?_
  exact sim_ret (release_plain (by rfl) _)
theorem tt_impl_SameSpots : PureOK Try.prog n_impl_SameSpots (C2 (fun c : Bool => enc c) t_impl_SameSpots) := pureC2 (Econs tt_slices_Equal_impl_Spot_impl_Spot E0) mixed hb_impl_SameSpots fun a_ b_ => ts_impl_SameSpots _ (by simp [envL]) a_ b_

def s0_laws_FnArcs (c14 : (Sl Int) × Int) : Int → Option (Sum Int (Sum Unit Bool)) := fun w79 =>
  bif decide (w79 < (((c14.1.getD []).length : Nat) : Int)) then
    obind (getI (c14.1.getD []) w79) fun a105 =>
    obind (getI (c14.1.getD []) (wr (w79 - 1))) fun a109 =>
    bif decide (a105 < a109) then
      some (.inr (.inr false))
    else
      some (.inl (wr (w79 + 1)))
  else
    some (.inr (.inl ()))
def t_laws_FnArcs (code_ : Sl UInt8) : Option Bool :=
  obind (t_laws_f6big code_) fun c1 =>
  bif c1 then
    some true
  else
    obind (t_spec_DrawArcsOf code_) fun c3 =>
    obind (t_impl_ArcsOf c3) fun c14 =>
    obind (t_spec_ArcsOf c3) fun c19 =>
    obind (t_impl_SpotsOf c3) fun c24 =>
    obind (t_spec_SpotsOf c3) fun c29 =>
    obind (t_impl_SpeedsOf c3) fun c34 =>
    obind (t_spec_SpeedsOf c3) fun c39 =>
    obind (t_impl_LongestPause c3) fun c44 =>
    obind (t_spec_LongestPause c3) fun c45 =>
    obind (t_spec_DrawSameSpots code_) fun c46 =>
    obind (bif !decide (c14.2 = c19.2) then some false else (obind (t_laws_f6ints c14.1 c19.1) fun c54 => some (!c54))) fun c55 =>
    obind (bif (bif !decide (c14.2 = c19.2) then true else c55) then some false else (some (!decide (c24.2 = c29.2)))) fun c57 =>
    obind (bif (bif (bif !decide (c14.2 = c19.2) then true else c55) then true else c57) then some false else (obind (t_spec_SameSpots c24.1 c29.1) fun c59 => some (!c59))) fun c60 =>
    obind (bif (bif (bif (bif !decide (c14.2 = c19.2) then true else c55) then true else c57) then true else c60) then some false else (some (!decide (c34.2 = c39.2)))) fun c62 =>
    obind (bif (bif (bif (bif (bif !decide (c14.2 = c19.2) then true else c55) then true else c57) then true else c60) then true else c62) then some false else (obind (t_laws_f6ints c34.1 c39.1) fun c64 => some (!c64))) fun c65 =>
    obind (bif (bif (bif (bif (bif (bif !decide (c14.2 = c19.2) then true else c55) then true else c57) then true else c60) then true else c62) then true else c65) then some false else (some (!decide (c44.2 = c45.2)))) fun c67 =>
    obind (bif (bif (bif (bif (bif (bif (bif !decide (c14.2 = c19.2) then true else c55) then true else c57) then true else c60) then true else c62) then true else c65) then true else c67) then some false else (some (!decide (c44.1 = c45.1)))) fun c69 =>
    obind (bif (bif (bif (bif (bif (bif (bif (bif !decide (c14.2 = c19.2) then true else c55) then true else c57) then true else c60) then true else c62) then true else c65) then true else c67) then true else c69) then some false else (obind (t_impl_SameSpots c46.1 c46.2) fun c71 => obind (t_spec_SameSpots c46.1 c46.2) fun c72 => some (!(c71 == c72)))) fun c73 =>
    bif (bif (bif (bif (bif (bif (bif (bif (bif !decide (c14.2 = c19.2) then true else c55) then true else c57) then true else c60) then true else c62) then true else c65) then true else c67) then true else c69) then true else c73) then
      some false
    else
      bif !decide (c14.2 = 0) then
        some true
      else
        obind (t_impl_StrokeLength c3) fun c76 =>
        obind (loopT (s0_laws_FnArcs c14) 1) fun qq118 => match qq118 with
        | (.inl _) =>
            obind (bif decide (c76.2 = 0) then (some (decide (0 < (((c14.1.getD []).length : Nat) : Int)))) else some false) fun c85 =>
            obind (bif (bif decide (c76.2 = 0) then c85 else false) then (obind (getI (c14.1.getD []) 0) fun a87 => some (decide (a87 = 0))) else some false) fun c91 =>
            obind (bif (bif (bif decide (c76.2 = 0) then c85 else false) then c91 else false) then (obind (getI (c14.1.getD []) (wr ((((c14.1.getD []).length : Nat) : Int) - 1))) fun a93 => some (decide (a93 = c76.1))) else some false) fun c97 =>
            obind (bif (bif (bif (bif decide (c76.2 = 0) then c85 else false) then c91 else false) then c97 else false) then (some (decide ((((c34.1.getD []).length : Nat) : Int) = wr ((((c14.1.getD []).length : Nat) : Int) - 1)))) else some false) fun c99 =>
            some (bif (bif (bif (bif decide (c76.2 = 0) then c85 else false) then c91 else false) then c97 else false) then c99 else false)
        | (.inr q102) =>
            some q102

theorem tl0_laws_FnArcs (env : Nat → Contract) {B : Base} (he_impl_ArcsOf : env n_impl_ArcsOf = .pure (C1 (fun c : (Sl Int) × Int => AV.tup [rS c.1, enc c.2]) t_impl_ArcsOf)) (he_impl_LongestPause : env n_impl_LongestPause = .pure (C1 (fun c : Int × Int => AV.tup [enc c.1, enc c.2]) t_impl_LongestPause)) (he_impl_SameSpots : env n_impl_SameSpots = .pure (C2 (fun c : Bool => enc c) t_impl_SameSpots)) (he_impl_SpeedsOf : env n_impl_SpeedsOf = .pure (C1 (fun c : (Sl Int) × Int => AV.tup [rS c.1, enc c.2]) t_impl_SpeedsOf)) (he_impl_SpotsOf : env n_impl_SpotsOf = .pure (C1 (fun c : (Sl Spot) × Int => AV.tup [rS c.1, enc c.2]) t_impl_SpotsOf)) (he_impl_StrokeLength : env n_impl_StrokeLength = .pure (C1 (fun c : Int × Int => AV.tup [enc c.1, enc c.2]) t_impl_StrokeLength)) (he_laws_f6big : env n_laws_f6big = .pure (C1 (fun c : Bool => enc c) t_laws_f6big)) (he_laws_f6ints : env n_laws_f6ints = .pure (C2 (fun c : Bool => enc c) t_laws_f6ints)) (he_spec_ArcsOf : env n_spec_ArcsOf = .pure (C1 (fun c : (Sl Int) × Int => AV.tup [rS c.1, enc c.2]) t_spec_ArcsOf)) (he_spec_DrawArcsOf : env n_spec_DrawArcsOf = .pure (C1 (fun c : Stroke => AV.agg [rS c.points]) t_spec_DrawArcsOf)) (he_spec_DrawSameSpots : env n_spec_DrawSameSpots = .pure (C1 (fun c : (Sl Spot) × (Sl Spot) => AV.tup [rS c.1, rS c.2]) t_spec_DrawSameSpots)) (he_spec_LongestPause : env n_spec_LongestPause = .pure (C1 (fun c : Int × Int => AV.tup [enc c.1, enc c.2]) t_spec_LongestPause)) (he_spec_SameSpots : env n_spec_SameSpots = .pure (C2 (fun c : Bool => enc c) t_spec_SameSpots)) (he_spec_SpeedsOf : env n_spec_SpeedsOf = .pure (C1 (fun c : (Sl Int) × Int => AV.tup [rS c.1, enc c.2]) t_spec_SpeedsOf)) (he_spec_SpotsOf : env n_spec_SpotsOf = .pure (C1 (fun c : (Sl Spot) × Int => AV.tup [rS c.1, enc c.2]) t_spec_SpotsOf)) (code_ : Sl UInt8) (c1 : Bool) (c3 : Stroke) (x5 : AV) (o8 : Nat) (c14 : (Sl Int) × Int) (x16 : AV) (c19 : (Sl Int) × Int) (x21 : AV) (c24 : (Sl Spot) × Int) (x26 : AV) (c29 : (Sl Spot) × Int) (x31 : AV) (c34 : (Sl Int) × Int) (x36 : AV) (c39 : (Sl Int) × Int) (x41 : AV) (c44 : Int × Int) (c45 : Int × Int) (c46 : (Sl Spot) × (Sl Spot)) (x48 : AV) (x50 : AV) (c55 : Bool) (c57 : Bool) (c60 : Bool) (c62 : Bool) (c65 : Bool) (c67 : Bool) (c69 : Bool) (c73 : Bool) (c76 : Int × Int)  {st : Int} {tm : TM} {h : Heap} (R : (fun (st : Int) tm h77 => match st with | w79 => tm = ((Sl.enc code_) :: und :: AV.top :: (AV.ptr o8 1 0 0) :: x16 :: (iv c14.2) :: x21 :: (iv c19.2) :: x26 :: (iv c24.2) :: x31 :: (iv c29.2) :: x36 :: (iv c34.2) :: x41 :: (iv c39.2) :: (iv c44.1) :: (iv c44.2) :: (iv c45.1) :: (iv c45.2) :: x48 :: x50 :: (iv c76.1) :: (iv c76.2) :: (iv w79) :: (Sl.enc code_) :: (bv c1) :: (Sl.enc code_) :: (AV.agg [x5]) :: (AV.tup [x16, iv c14.2]) :: (AV.agg [x5]) :: (AV.tup [x16, iv c14.2]) :: x16 :: (iv c14.2) :: (AV.tup [x21, iv c19.2]) :: (AV.agg [x5]) :: (AV.tup [x21, iv c19.2]) :: x21 :: (iv c19.2) :: (AV.tup [x26, iv c24.2]) :: (AV.agg [x5]) :: (AV.tup [x26, iv c24.2]) :: x26 :: (iv c24.2) :: (AV.tup [x31, iv c29.2]) :: (AV.agg [x5]) :: (AV.tup [x31, iv c29.2]) :: x31 :: (iv c29.2) :: (AV.tup [x36, iv c34.2]) :: (AV.agg [x5]) :: (AV.tup [x36, iv c34.2]) :: x36 :: (iv c34.2) :: (AV.tup [x41, iv c39.2]) :: (AV.agg [x5]) :: (AV.tup [x41, iv c39.2]) :: x41 :: (iv c39.2) :: (AV.tup [iv c44.1, iv c44.2]) :: (AV.agg [x5]) :: (AV.tup [iv c44.1, iv c44.2]) :: (iv c44.1) :: (iv c44.2) :: (AV.tup [iv c45.1, iv c45.2]) :: (AV.agg [x5]) :: (AV.tup [iv c45.1, iv c45.2]) :: (iv c45.1) :: (iv c45.2) :: (AV.tup [x48, x50]) :: (Sl.enc code_) :: (AV.tup [x48, x50]) :: x48 :: x50 :: (iv c14.2) :: (iv c19.2) :: (bv (!decide (c14.2 = c19.2))) :: (bv (!decide (c14.2 = c19.2))) :: AV.top :: AV.top :: AV.top :: (cond (!decide (c14.2 = c19.2)) und (bv c55)) :: (bv (bif !decide (c14.2 = c19.2) then true else c55)) :: (bv (bif !decide (c14.2 = c19.2) then true else c55)) :: AV.top :: AV.top :: (cond (bif !decide (c14.2 = c19.2) then true else c55) und (bv c57)) :: (bv (bif (bif !decide (c14.2 = c19.2) then true else c55) then true else c57)) :: (bv (bif (bif !decide (c14.2 = c19.2) then true else c55) then true else c57)) :: AV.top :: AV.top :: AV.top :: (cond (bif (bif !decide (c14.2 = c19.2) then true else c55) then true else c57) und (bv c60)) :: (bv (bif (bif (bif !decide (c14.2 = c19.2) then true else c55) then true else c57) then true else c60)) :: (bv (bif (bif (bif !decide (c14.2 = c19.2) then true else c55) then true else c57) then true else c60)) :: AV.top :: AV.top :: (cond (bif (bif (bif !decide (c14.2 = c19.2) then true else c55) then true else c57) then true else c60) und (bv c62)) :: (bv (bif (bif (bif (bif !decide (c14.2 = c19.2) then true else c55) then true else c57) then true else c60) then true else c62)) :: (bv (bif (bif (bif (bif !decide (c14.2 = c19.2) then true else c55) then true else c57) then true else c60) then true else c62)) :: AV.top :: AV.top :: AV.top :: (cond (bif (bif (bif (bif !decide (c14.2 = c19.2) then true else c55) then true else c57) then true else c60) then true else c62) und (bv c65)) :: (bv (bif (bif (bif (bif (bif !decide (c14.2 = c19.2) then true else c55) then true else c57) then true else c60) then true else c62) then true else c65)) :: (bv (bif (bif (bif (bif (bif !decide (c14.2 = c19.2) then true else c55) then true else c57) then true else c60) then true else c62) then true else c65)) :: AV.top :: AV.top :: (cond (bif (bif (bif (bif (bif !decide (c14.2 = c19.2) then true else c55) then true else c57) then true else c60) then true else c62) then true else c65) und (bv c67)) :: (bv (bif (bif (bif (bif (bif (bif !decide (c14.2 = c19.2) then true else c55) then true else c57) then true else c60) then true else c62) then true else c65) then true else c67)) :: (bv (bif (bif (bif (bif (bif (bif !decide (c14.2 = c19.2) then true else c55) then true else c57) then true else c60) then true else c62) then true else c65) then true else c67)) :: AV.top :: AV.top :: (cond (bif (bif (bif (bif (bif (bif !decide (c14.2 = c19.2) then true else c55) then true else c57) then true else c60) then true else c62) then true else c65) then true else c67) und (bv c69)) :: (bv (bif (bif (bif (bif (bif (bif (bif !decide (c14.2 = c19.2) then true else c55) then true else c57) then true else c60) then true else c62) then true else c65) then true else c67) then true else c69)) :: (bv (bif (bif (bif (bif (bif (bif (bif !decide (c14.2 = c19.2) then true else c55) then true else c57) then true else c60) then true else c62) then true else c65) then true else c67) then true else c69)) :: AV.top :: AV.top :: AV.top :: AV.top :: AV.top :: AV.top :: (cond (bif (bif (bif (bif (bif (bif (bif !decide (c14.2 = c19.2) then true else c55) then true else c57) then true else c60) then true else c62) then true else c65) then true else c67) then true else c69) und (bv c73)) :: (bv (bif (bif (bif (bif (bif (bif (bif (bif !decide (c14.2 = c19.2) then true else c55) then true else c57) then true else c60) then true else c62) then true else c65) then true else c67) then true else c69) then true else c73)) :: (iv c14.2) :: (bv (!decide (c14.2 = 0))) :: (AV.tup [iv c76.1, iv c76.2]) :: (AV.agg [x5]) :: (AV.tup [iv c76.1, iv c76.2]) :: (iv c76.1) :: (iv c76.2) :: AV.top :: AV.top :: AV.top :: AV.top :: AV.top :: AV.top :: AV.top :: AV.top :: AV.top :: AV.top :: AV.top :: AV.top :: AV.top :: AV.top :: AV.top :: AV.top :: und :: und :: und :: und :: und :: und :: und :: und :: und :: und :: und :: und :: und :: und :: und :: und :: und :: und :: und :: und :: und :: und :: und :: und :: und :: und :: und :: und :: und :: und :: und :: []) ∧ Hold B h77 [(x5, obS (c3.points : Sl Point)), (AV.ptr o8 1 0 0, .pt 1 [x5]), (x16, obS (c14.1 : Sl Int)), (x21, obS (c19.1 : Sl Int)), (x26, obS (c24.1 : Sl Spot)), (x31, obS (c29.1 : Sl Spot)), (x36, obS (c34.1 : Sl Int)), (x41, obS (c39.1 : Sl Int)), (x48, obS (c46.1 : Sl Spot)), (x50, obS (c46.2 : Sl Spot))]) st tm h) : Sim (loopP hm0_laws_FnArcs xm0_laws_FnArcs (lb0_laws_FnArcs env) tm h) (loopT (s0_laws_FnArcs c14) st) (fun (q : Sum Unit Bool) (r : Res) => match q with | .inl _ => ∃ (q83 : Int) (z82 : AV) (h80 : Heap), r = (.exit 0, ((Sl.enc code_) :: und :: z82 :: (AV.ptr o8 1 0 0) :: x16 :: (iv c14.2) :: x21 :: (iv c19.2) :: x26 :: (iv c24.2) :: x31 :: (iv c29.2) :: x36 :: (iv c34.2) :: x41 :: (iv c39.2) :: (iv c44.1) :: (iv c44.2) :: (iv c45.1) :: (iv c45.2) :: x48 :: x50 :: (iv c76.1) :: (iv c76.2) :: (iv q83) :: (Sl.enc code_) :: (bv c1) :: (Sl.enc code_) :: (AV.agg [x5]) :: (AV.tup [x16, iv c14.2]) :: (AV.agg [x5]) :: (AV.tup [x16, iv c14.2]) :: x16 :: (iv c14.2) :: (AV.tup [x21, iv c19.2]) :: (AV.agg [x5]) :: (AV.tup [x21, iv c19.2]) :: x21 :: (iv c19.2) :: (AV.tup [x26, iv c24.2]) :: (AV.agg [x5]) :: (AV.tup [x26, iv c24.2]) :: x26 :: (iv c24.2) :: (AV.tup [x31, iv c29.2]) :: (AV.agg [x5]) :: (AV.tup [x31, iv c29.2]) :: x31 :: (iv c29.2) :: (AV.tup [x36, iv c34.2]) :: (AV.agg [x5]) :: (AV.tup [x36, iv c34.2]) :: x36 :: (iv c34.2) :: (AV.tup [x41, iv c39.2]) :: (AV.agg [x5]) :: (AV.tup [x41, iv c39.2]) :: x41 :: (iv c39.2) :: (AV.tup [iv c44.1, iv c44.2]) :: (AV.agg [x5]) :: (AV.tup [iv c44.1, iv c44.2]) :: (iv c44.1) :: (iv c44.2) :: (AV.tup [iv c45.1, iv c45.2]) :: (AV.agg [x5]) :: (AV.tup [iv c45.1, iv c45.2]) :: (iv c45.1) :: (iv c45.2) :: (AV.tup [x48, x50]) :: (Sl.enc code_) :: (AV.tup [x48, x50]) :: x48 :: x50 :: (iv c14.2) :: (iv c19.2) :: (bv (!decide (c14.2 = c19.2))) :: (bv (!decide (c14.2 = c19.2))) :: AV.top :: AV.top :: AV.top :: (cond (!decide (c14.2 = c19.2)) und (bv c55)) :: (bv (bif !decide (c14.2 = c19.2) then true else c55)) :: (bv (bif !decide (c14.2 = c19.2) then true else c55)) :: AV.top :: AV.top :: (cond (bif !decide (c14.2 = c19.2) then true else c55) und (bv c57)) :: (bv (bif (bif !decide (c14.2 = c19.2) then true else c55) then true else c57)) :: (bv (bif (bif !decide (c14.2 = c19.2) then true else c55) then true else c57)) :: AV.top :: AV.top :: AV.top :: (cond (bif (bif !decide (c14.2 = c19.2) then true else c55) then true else c57) und (bv c60)) :: (bv (bif (bif (bif !decide (c14.2 = c19.2) then true else c55) then true else c57) then true else c60)) :: (bv (bif (bif (bif !decide (c14.2 = c19.2) then true else c55) then true else c57) then true else c60)) :: AV.top :: AV.top :: (cond (bif (bif (bif !decide (c14.2 = c19.2) then true else c55) then true else c57) then true else c60) und (bv c62)) :: (bv (bif (bif (bif (bif !decide (c14.2 = c19.2) then true else c55) then true else c57) then true else c60) then true else c62)) :: (bv (bif (bif (bif (bif !decide (c14.2 = c19.2) then true else c55) then true else c57) then true else c60) then true else c62)) :: AV.top :: AV.top :: AV.top :: (cond (bif (bif (bif (bif !decide (c14.2 = c19.2) then true else c55) then true else c57) then true else c60) then true else c62) und (bv c65)) :: (bv (bif (bif (bif (bif (bif !decide (c14.2 = c19.2) then true else c55) then true else c57) then true else c60) then true else c62) then true else c65)) :: (bv (bif (bif (bif (bif (bif !decide (c14.2 = c19.2) then true else c55) then true else c57) then true else c60) then true else c62) then true else c65)) :: AV.top :: AV.top :: (cond (bif (bif (bif (bif (bif !decide (c14.2 = c19.2) then true else c55) then true else c57) then true else c60) then true else c62) then true else c65) und (bv c67)) :: (bv (bif (bif (bif (bif (bif (bif !decide (c14.2 = c19.2) then true else c55) then true else c57) then true else c60) then true else c62) then true else c65) then true else c67)) :: (bv (bif (bif (bif (bif (bif (bif !decide (c14.2 = c19.2) then true else c55) then true else c57) then true else c60) then true else c62) then true else c65) then true else c67)) :: AV.top :: AV.top :: (cond (bif (bif (bif (bif (bif (bif !decide (c14.2 = c19.2) then true else c55) then true else c57) then true else c60) then true else c62) then true else c65) then true else c67) und (bv c69)) :: (bv (bif (bif (bif (bif (bif (bif (bif !decide (c14.2 = c19.2) then true else c55) then true else c57) then true else c60) then true else c62) then true else c65) then true else c67) then true else c69)) :: (bv (bif (bif (bif (bif (bif (bif (bif !decide (c14.2 = c19.2) then true else c55) then true else c57) then true else c60) then true else c62) then true else c65) then true else c67) then true else c69)) :: AV.top :: AV.top :: AV.top :: AV.top :: AV.top :: AV.top :: (cond (bif (bif (bif (bif (bif (bif (bif !decide (c14.2 = c19.2) then true else c55) then true else c57) then true else c60) then true else c62) then true else c65) then true else c67) then true else c69) und (bv c73)) :: (bv (bif (bif (bif (bif (bif (bif (bif (bif !decide (c14.2 = c19.2) then true else c55) then true else c57) then true else c60) then true else c62) then true else c65) then true else c67) then true else c69) then true else c73)) :: (iv c14.2) :: (bv (!decide (c14.2 = 0))) :: (AV.tup [iv c76.1, iv c76.2]) :: (AV.agg [x5]) :: (AV.tup [iv c76.1, iv c76.2]) :: (iv c76.1) :: (iv c76.2) :: AV.top :: AV.top :: AV.top :: AV.top :: AV.top :: AV.top :: AV.top :: AV.top :: AV.top :: AV.top :: AV.top :: AV.top :: AV.top :: AV.top :: AV.top :: AV.top :: und :: und :: und :: und :: und :: und :: und :: und :: und :: und :: und :: und :: und :: und :: und :: und :: und :: und :: und :: und :: und :: und :: und :: und :: und :: und :: und :: und :: und :: und :: und :: []), h80) ∧ Hold B h80 [(x5, obS (c3.points : Sl Point)), (AV.ptr o8 1 0 0, .pt 1 [x5]), (x16, obS (c14.1 : Sl Int)), (x21, obS (c19.1 : Sl Int)), (x26, obS (c24.1 : Sl Spot)), (x31, obS (c29.1 : Sl Spot)), (x36, obS (c34.1 : Sl Int)), (x41, obS (c39.1 : Sl Int)), (x48, obS (c46.1 : Sl Spot)), (x50, obS (c46.2 : Sl Spot))] | .inr q102 => ∃ (q103 : Int) (h100 : Heap), r = (.ret, ((Sl.enc code_) :: und :: (bv q102) :: (AV.ptr o8 1 0 0) :: x16 :: (iv c14.2) :: x21 :: (iv c19.2) :: x26 :: (iv c24.2) :: x31 :: (iv c29.2) :: x36 :: (iv c34.2) :: x41 :: (iv c39.2) :: (iv c44.1) :: (iv c44.2) :: (iv c45.1) :: (iv c45.2) :: x48 :: x50 :: (iv c76.1) :: (iv c76.2) :: (iv q103) :: (Sl.enc code_) :: (bv c1) :: (Sl.enc code_) :: (AV.agg [x5]) :: (AV.tup [x16, iv c14.2]) :: (AV.agg [x5]) :: (AV.tup [x16, iv c14.2]) :: x16 :: (iv c14.2) :: (AV.tup [x21, iv c19.2]) :: (AV.agg [x5]) :: (AV.tup [x21, iv c19.2]) :: x21 :: (iv c19.2) :: (AV.tup [x26, iv c24.2]) :: (AV.agg [x5]) :: (AV.tup [x26, iv c24.2]) :: x26 :: (iv c24.2) :: (AV.tup [x31, iv c29.2]) :: (AV.agg [x5]) :: (AV.tup [x31, iv c29.2]) :: x31 :: (iv c29.2) :: (AV.tup [x36, iv c34.2]) :: (AV.agg [x5]) :: (AV.tup [x36, iv c34.2]) :: x36 :: (iv c34.2) :: (AV.tup [x41, iv c39.2]) :: (AV.agg [x5]) :: (AV.tup [x41, iv c39.2]) :: x41 :: (iv c39.2) :: (AV.tup [iv c44.1, iv c44.2]) :: (AV.agg [x5]) :: (AV.tup [iv c44.1, iv c44.2]) :: (iv c44.1) :: (iv c44.2) :: (AV.tup [iv c45.1, iv c45.2]) :: (AV.agg [x5]) :: (AV.tup [iv c45.1, iv c45.2]) :: (iv c45.1) :: (iv c45.2) :: (AV.tup [x48, x50]) :: (Sl.enc code_) :: (AV.tup [x48, x50]) :: x48 :: x50 :: (iv c14.2) :: (iv c19.2) :: (bv (!decide (c14.2 = c19.2))) :: (bv (!decide (c14.2 = c19.2))) :: AV.top :: AV.top :: AV.top :: (cond (!decide (c14.2 = c19.2)) und (bv c55)) :: (bv (bif !decide (c14.2 = c19.2) then true else c55)) :: (bv (bif !decide (c14.2 = c19.2) then true else c55)) :: AV.top :: AV.top :: (cond (bif !decide (c14.2 = c19.2) then true else c55) und (bv c57)) :: (bv (bif (bif !decide (c14.2 = c19.2) then true else c55) then true else c57)) :: (bv (bif (bif !decide (c14.2 = c19.2) then true else c55) then true else c57)) :: AV.top :: AV.top :: AV.top :: (cond (bif (bif !decide (c14.2 = c19.2) then true else c55) then true else c57) und (bv c60)) :: (bv (bif (bif (bif !decide (c14.2 = c19.2) then true else c55) then true else c57) then true else c60)) :: (bv (bif (bif (bif !decide (c14.2 = c19.2) then true else c55) then true else c57) then true else c60)) :: AV.top :: AV.top :: (cond (bif (bif (bif !decide (c14.2 = c19.2) then true else c55) then true else c57) then true else c60) und (bv c62)) :: (bv (bif (bif (bif (bif !decide (c14.2 = c19.2) then true else c55) then true else c57) then true else c60) then true else c62)) :: (bv (bif (bif (bif (bif !decide (c14.2 = c19.2) then true else c55) then true else c57) then true else c60) then true else c62)) :: AV.top :: AV.top :: AV.top :: (cond (bif (bif (bif (bif !decide (c14.2 = c19.2) then true else c55) then true else c57) then true else c60) then true else c62) und (bv c65)) :: (bv (bif (bif (bif (bif (bif !decide (c14.2 = c19.2) then true else c55) then true else c57) then true else c60) then true else c62) then true else c65)) :: (bv (bif (bif (bif (bif (bif !decide (c14.2 = c19.2) then true else c55) then true else c57) then true else c60) then true else c62) then true else c65)) :: AV.top :: AV.top :: (cond (bif (bif (bif (bif (bif !decide (c14.2 = c19.2) then true else c55) then true else c57) then true else c60) then true else c62) then true else c65) und (bv c67)) :: (bv (bif (bif (bif (bif (bif (bif !decide (c14.2 = c19.2) then true else c55) then true else c57) then true else c60) then true else c62) then true else c65) then true else c67)) :: (bv (bif (bif (bif (bif (bif (bif !decide (c14.2 = c19.2) then true else c55) then true else c57) then true else c60) then true else c62) then true else c65) then true else c67)) :: AV.top :: AV.top :: (cond (bif (bif (bif (bif (bif (bif !decide (c14.2 = c19.2) then true else c55) then true else c57) then true else c60) then true else c62) then true else c65) then true else c67) und (bv c69)) :: (bv (bif (bif (bif (bif (bif (bif (bif !decide (c14.2 = c19.2) then true else c55) then true else c57) then true else c60) then true else c62) then true else c65) then true else c67) then true else c69)) :: (bv (bif (bif (bif (bif (bif (bif (bif !decide (c14.2 = c19.2) then true else c55) then true else c57) then true else c60) then true else c62) then true else c65) then true else c67) then true else c69)) :: AV.top :: AV.top :: AV.top :: AV.top :: AV.top :: AV.top :: (cond (bif (bif (bif (bif (bif (bif (bif !decide (c14.2 = c19.2) then true else c55) then true else c57) then true else c60) then true else c62) then true else c65) then true else c67) then true else c69) und (bv c73)) :: (bv (bif (bif (bif (bif (bif (bif (bif (bif !decide (c14.2 = c19.2) then true else c55) then true else c57) then true else c60) then true else c62) then true else c65) then true else c67) then true else c69) then true else c73)) :: (iv c14.2) :: (bv (!decide (c14.2 = 0))) :: (AV.tup [iv c76.1, iv c76.2]) :: (AV.agg [x5]) :: (AV.tup [iv c76.1, iv c76.2]) :: (iv c76.1) :: (iv c76.2) :: AV.top :: AV.top :: AV.top :: AV.top :: AV.top :: AV.top :: AV.top :: AV.top :: AV.top :: AV.top :: AV.top :: AV.top :: AV.top :: AV.top :: AV.top :: AV.top :: und :: und :: und :: und :: und :: und :: und :: und :: und :: und :: und :: und :: und :: und :: und :: und :: und :: und :: und :: und :: und :: und :: und :: und :: und :: und :: und :: und :: und :: und :: und :: []), h100) ∧ Hold B h100 [(x5, obS (c3.points : Sl Point)), (AV.ptr o8 1 0 0, .pt 1 [x5]), (x16, obS (c14.1 : Sl Int)), (x21, obS (c19.1 : Sl Int)), (x26, obS (c24.1 : Sl Spot)), (x31, obS (c29.1 : Sl Spot)), (x36, obS (c34.1 : Sl Int)), (x41, obS (c39.1 : Sl Int)), (x48, obS (c46.1 : Sl Spot)), (x50, obS (c46.2 : Sl Spot))]) := by
  refine loop_sim (Rel := fun (st : Int) tm h77 => match st with | w79 => tm = ((Sl.enc code_) :: und :: AV.top :: (AV.ptr o8 1 0 0) :: x16 :: (iv c14.2) :: x21 :: (iv c19.2) :: x26 :: (iv c24.2) :: x31 :: (iv c29.2) :: x36 :: (iv c34.2) :: x41 :: (iv c39.2) :: (iv c44.1) :: (iv c44.2) :: (iv c45.1) :: (iv c45.2) :: x48 :: x50 :: (iv c76.1) :: (iv c76.2) :: (iv w79) :: (Sl.enc code_) :: (bv c1) :: (Sl.enc code_) :: (AV.agg [x5]) :: (AV.tup [x16, iv c14.2]) :: (AV.agg [x5]) :: (AV.tup [x16, iv c14.2]) :: x16 :: (iv c14.2) :: (AV.tup [x21, iv c19.2]) :: (AV.agg [x5]) :: (AV.tup [x21, iv c19.2]) :: x21 :: (iv c19.2) :: (AV.tup [x26, iv c24.2]) :: (AV.agg [x5]) :: (AV.tup [x26, iv c24.2]) :: x26 :: (iv c24.2) :: (AV.tup [x31, iv c29.2]) :: (AV.agg [x5]) :: (AV.tup [x31, iv c29.2]) :: x31 :: (iv c29.2) :: (AV.tup [x36, iv c34.2]) :: (AV.agg [x5]) :: (AV.tup [x36, iv c34.2]) :: x36 :: (iv c34.2) :: (AV.tup [x41, iv c39.2]) :: (AV.agg [x5]) :: (AV.tup [x41, iv c39.2]) :: x41 :: (iv c39.2) :: (AV.tup [iv c44.1, iv c44.2]) :: (AV.agg [x5]) :: (AV.tup [iv c44.1, iv c44.2]) :: (iv c44.1) :: (iv c44.2) :: (AV.tup [iv c45.1, iv c45.2]) :: (AV.agg [x5]) :: (AV.tup [iv c45.1, iv c45.2]) :: (iv c45.1) :: (iv c45.2) :: (AV.tup [x48, x50]) :: (Sl.enc code_) :: (AV.tup [x48, x50]) :: x48 :: x50 :: (iv c14.2) :: (iv c19.2) :: (bv (!decide (c14.2 = c19.2))) :: (bv (!decide (c14.2 = c19.2))) :: AV.top :: AV.top :: AV.top :: (cond (!decide (c14.2 = c19.2)) und (bv c55)) :: (bv (bif !decide (c14.2 = c19.2) then true else c55)) :: (bv (bif !decide (c14.2 = c19.2) then true else c55)) :: AV.top :: AV.top :: (cond (bif !decide (c14.2 = c19.2) then true else c55) und (bv c57)) :: (bv (bif (bif !decide (c14.2 = c19.2) then true else c55) then true else c57)) :: (bv (bif (bif !decide (c14.2 = c19.2) then true else c55) then true else c57)) :: AV.top :: AV.top :: AV.top :: (cond (bif (bif !decide (c14.2 = c19.2) then true else c55) then true else c57) und (bv c60)) :: (bv (bif (bif (bif !decide (c14.2 = c19.2) then true else c55) then true else c57) then true else c60)) :: (bv (bif (bif (bif !decide (c14.2 = c19.2) then true else c55) then true else c57) then true else c60)) :: AV.top :: AV.top :: (cond (bif (bif (bif !decide (c14.2 = c19.2) then true else c55) then true else c57) then true else c60) und (bv c62)) :: (bv (bif (bif (bif (bif !decide (c14.2 = c19.2) then true else c55) then true else c57) then true else c60) then true else c62)) :: (bv (bif (bif (bif (bif !decide (c14.2 = c19.2) then true else c55) then true else c57) then true else c60) then true else c62)) :: AV.top :: AV.top :: AV.top :: (cond (bif (bif (bif (bif !decide (c14.2 = c19.2) then true else c55) then true else c57) then true else c60) then true else c62) und (bv c65)) :: (bv (bif (bif (bif (bif (bif !decide (c14.2 = c19.2) then true else c55) then true else c57) then true else c60) then true else c62) then true else c65)) :: (bv (bif (bif (bif (bif (bif !decide (c14.2 = c19.2) then true else c55) then true else c57) then true else c60) then true else c62) then true else c65)) :: AV.top :: AV.top :: (cond (bif (bif (bif (bif (bif !decide (c14.2 = c19.2) then true else c55) then true else c57) then true else c60) then true else c62) then true else c65) und (bv c67)) :: (bv (bif (bif (bif (bif (bif (bif !decide (c14.2 = c19.2) then true else c55) then true else c57) then true else c60) then true else c62) then true else c65) then true else c67)) :: (bv (bif (bif (bif (bif (bif (bif !decide (c14.2 = c19.2) then true else c55) then true else c57) then true else c60) then true else c62) then true else c65) then true else c67)) :: AV.top :: AV.top :: (cond (bif (bif (bif (bif (bif (bif !decide (c14.2 = c19.2) then true else c55) then true else c57) then true else c60) then true else c62) then true else c65) then true else c67) und (bv c69)) :: (bv (bif (bif (bif (bif (bif (bif (bif !decide (c14.2 = c19.2) then true else c55) then true else c57) then true else c60) then true else c62) then true else c65) then true else c67) then true else c69)) :: (bv (bif (bif (bif (bif (bif (bif (bif !decide (c14.2 = c19.2) then true else c55) then true else c57) then true else c60) then true else c62) then true else c65) then true else c67) then true else c69)) :: AV.top :: AV.top :: AV.top :: AV.top :: AV.top :: AV.top :: (cond (bif (bif (bif (bif (bif (bif (bif !decide (c14.2 = c19.2) then true else c55) then true else c57) then true else c60) then true else c62) then true else c65) then true else c67) then true else c69) und (bv c73)) :: (bv (bif (bif (bif (bif (bif (bif (bif (bif !decide (c14.2 = c19.2) then true else c55) then true else c57) then true else c60) then true else c62) then true else c65) then true else c67) then true else c69) then true else c73)) :: (iv c14.2) :: (bv (!decide (c14.2 = 0))) :: (AV.tup [iv c76.1, iv c76.2]) :: (AV.agg [x5]) :: (AV.tup [iv c76.1, iv c76.2]) :: (iv c76.1) :: (iv c76.2) :: AV.top :: AV.top :: AV.top :: AV.top :: AV.top :: AV.top :: AV.top :: AV.top :: AV.top :: AV.top :: AV.top :: AV.top :: AV.top :: AV.top :: AV.top :: AV.top :: und :: und :: und :: und :: und :: und :: und :: und :: und :: und :: und :: und :: und :: und :: und :: und :: und :: und :: und :: und :: und :: und :: und :: und :: und :: und :: und :: und :: und :: und :: und :: []) ∧ Hold B h77 [(x5, obS (c3.points : Sl Point)), (AV.ptr o8 1 0 0, .pt 1 [x5]), (x16, obS (c14.1 : Sl Int)), (x21, obS (c19.1 : Sl Int)), (x26, obS (c24.1 : Sl Spot)), (x31, obS (c29.1 : Sl Spot)), (x36, obS (c34.1 : Sl Int)), (x41, obS (c39.1 : Sl Int)), (x48, obS (c46.1 : Sl Spot)), (x50, obS (c46.2 : Sl Spot))]) (fun w79 tm h77 R => ?_) R
  obtain ⟨rfl, O78⟩ := R
  rw [e_lb0_laws_FnArcs]
  unfold s0_laws_FnArcs
  dsimp only
  refine sim_let (v := iv (((c14.1.getD []).length : Nat) : Int)) (O78.tab (A := Int) (s := c14.1) 2 rfl).len ?_
  refine sim_let (v := bv (decide (w79 < (((c14.1.getD []).length : Nat) : Int)))) (aBin_lss _ _) ?_
  refine sim_cond (fun c104 => ?_) (fun c104 => ?_)
  · refine sim_get (O78.tab (A := Int) (s := c14.1) 2 rfl) (fun m106 a105 hi107 hm108 => ?_)
    refine sim_let (v := iv a105) ((O78.tab (A := Int) (s := c14.1) 2 rfl).ld hm108 false 1 0) ?_
    refine sim_let (v := iv (wr (w79 - 1))) (aBin_sub _ _) ?_
    refine sim_get (O78.tab (A := Int) (s := c14.1) 2 rfl) (fun m110 a109 hi111 hm112 => ?_)
    refine sim_let (v := iv a109) ((O78.tab (A := Int) (s := c14.1) 2 rfl).ld hm112 false 1 0) ?_
    refine sim_let (v := bv (decide (a105 < a109))) (aBin_lss _ _) ?_
    refine sim_cond (fun c113 => ?_) (fun c113 => ?_)
    · exact sim_ret ⟨nofun, _, _, rfl, O78⟩
    · refine sim_let (v := iv (wr (w79 + 1))) (aBin_add _ _) ?_
      exact sim_ret ⟨rfl, rfl, O78⟩
  · exact sim_ret ⟨nofun, _, _, _, rfl, O78⟩
theorem ts_laws_FnArcs (env : Nat → Contract) (he_impl_ArcsOf : env n_impl_ArcsOf = .pure (C1 (fun c : (Sl Int) × Int => AV.tup [rS c.1, enc c.2]) t_impl_ArcsOf)) (he_impl_LongestPause : env n_impl_LongestPause = .pure (C1 (fun c : Int × Int => AV.tup [enc c.1, enc c.2]) t_impl_LongestPause)) (he_impl_SameSpots : env n_impl_SameSpots = .pure (C2 (fun c : Bool => enc c) t_impl_SameSpots)) (he_impl_SpeedsOf : env n_impl_SpeedsOf = .pure (C1 (fun c : (Sl Int) × Int => AV.tup [rS c.1, enc c.2]) t_impl_SpeedsOf)) (he_impl_SpotsOf : env n_impl_SpotsOf = .pure (C1 (fun c : (Sl Spot) × Int => AV.tup [rS c.1, enc c.2]) t_impl_SpotsOf)) (he_impl_StrokeLength : env n_impl_StrokeLength = .pure (C1 (fun c : Int × Int => AV.tup [enc c.1, enc c.2]) t_impl_StrokeLength)) (he_laws_f6big : env n_laws_f6big = .pure (C1 (fun c : Bool => enc c) t_laws_f6big)) (he_laws_f6ints : env n_laws_f6ints = .pure (C2 (fun c : Bool => enc c) t_laws_f6ints)) (he_spec_ArcsOf : env n_spec_ArcsOf = .pure (C1 (fun c : (Sl Int) × Int => AV.tup [rS c.1, enc c.2]) t_spec_ArcsOf)) (he_spec_DrawArcsOf : env n_spec_DrawArcsOf = .pure (C1 (fun c : Stroke => AV.agg [rS c.points]) t_spec_DrawArcsOf)) (he_spec_DrawSameSpots : env n_spec_DrawSameSpots = .pure (C1 (fun c : (Sl Spot) × (Sl Spot) => AV.tup [rS c.1, rS c.2]) t_spec_DrawSameSpots)) (he_spec_LongestPause : env n_spec_LongestPause = .pure (C1 (fun c : Int × Int => AV.tup [enc c.1, enc c.2]) t_spec_LongestPause)) (he_spec_SameSpots : env n_spec_SameSpots = .pure (C2 (fun c : Bool => enc c) t_spec_SameSpots)) (he_spec_SpeedsOf : env n_spec_SpeedsOf = .pure (C1 (fun c : (Sl Int) × Int => AV.tup [rS c.1, enc c.2]) t_spec_SpeedsOf)) (he_spec_SpotsOf : env n_spec_SpotsOf = .pure (C1 (fun c : (Sl Spot) × Int => AV.tup [rS c.1, enc c.2]) t_spec_SpotsOf)) (code_ : Sl UInt8) : Sim (denFn Try.prog env n_laws_FnArcs [Sl.enc code_] []) (t_laws_FnArcs code_) fun c p => release p.2 depth p.1 = some ((fun c : Bool => enc c) c) := by
  have O := Hold.nil []
  generalize hB : (⟨[], []⟩ : Base) = B at O
  clear hB
  rw [e_laws_FnArcs]
  unfold t_laws_FnArcs
  refine sim_call1 he_laws_f6big (snapD_enc _ _) (fun c1 => ?_)
  refine sim_let2 (hand_plain (by rfl) _ _) ?_
  refine sim_cond (fun c2 => ?_) (fun c2 => ?_)
  · exact sim_ret (release_plain (by rfl) _)
  · refine sim_call1 he_spec_DrawArcsOf (snapD_enc _ _) (fun c3 => ?_)
    refine sim_hand1 O (c3.points : Sl Point) (fun z1 => AV.agg [z1]) (by intro b; simp only [mat_tup, mat_aggD, mat_agg, matLc, matLn, mat_iv, mat_bv, mat_sv, mat_bt, mat_nilS, mat_rS, List.append_nil, List.nil_append, List.length_nil, Nat.add_zero]) (by simp only [noF_tup, noF_aggD, noF_agg, noF_iv, noF_bv, noF_sv, noF_bt, noF_nilS, noF_rS, List.all_cons, List.all_nil, Bool.and_self]) (fun x5 h6 O7 => ?_)
    replace O7 : Hold B h6 [(x5, obS (c3.points : Sl Point))] := O7
    refine sim_box O7 (cs := [nilS]) (by first | rfl | simp) (fun o8 h9 O10 => ?_)
    replace O10 : Hold B h9 [(x5, obS (c3.points : Sl Point)), (AV.ptr o8 1 0 0, .pt 1 [nilS])] := O10
    refine sim_store O10 1 (cs' := [x5]) rfl (by first | rfl | simp [(O10.one (A := Point) (s := c3.points) 0 rfl).1, (O10.one (A := Point) (s := c3.points) 0 rfl).2]) (by simp) (by first | rfl | simp [(O10.one (A := Point) (s := c3.points) 0 rfl).1, (O10.one (A := Point) (s := c3.points) 0 rfl).2]) (by first | rfl | simp [splice, (O10.one (A := Point) (s := c3.points) 0 rfl).1, (O10.one (A := Point) (s := c3.points) 0 rfl).2]) (fun h12 O13 => ?_)
    replace O13 : Hold B h12 [(x5, obS (c3.points : Sl Point)), (AV.ptr o8 1 0 0, .pt 1 [x5])] := O13
    refine sim_let (v := AV.agg [x5]) (O13.ld 1 rfl true 1 0) ?_
    refine sim_call1 he_impl_ArcsOf (snapD_own h12 c3 rfl (by simp [omap, O13.snap7 (A := Point) (s := c3.points) 0 rfl])) (fun c14 => ?_)
    refine sim_hand1 O13 (c14.1 : Sl Int) (fun z1 => AV.tup [z1, iv c14.2]) (by intro b; simp only [mat_tup, mat_aggD, mat_agg, matLc, matLn, mat_iv, mat_bv, mat_sv, mat_bt, mat_nilS, mat_rS, List.append_nil, List.nil_append, List.length_nil, Nat.add_zero]) (by simp only [noF_tup, noF_aggD, noF_agg, noF_iv, noF_bv, noF_sv, noF_bt, noF_nilS, noF_rS, List.all_cons, List.all_nil, Bool.and_self]) (fun x16 h17 O18 => ?_)
    replace O18 : Hold B h17 [(x5, obS (c3.points : Sl Point)), (AV.ptr o8 1 0 0, .pt 1 [x5]), (x16, obS (c14.1 : Sl Int))] := O18
    refine sim_let (v := x16) rfl ?_
    refine sim_let (v := iv c14.2) rfl ?_
    refine sim_let (v := AV.agg [x5]) (O18.ld 1 rfl true 1 0) ?_
    refine sim_call1 he_spec_ArcsOf (snapD_own h17 c3 rfl (by simp [omap, O18.snap7 (A := Point) (s := c3.points) 0 rfl])) (fun c19 => ?_)
    refine sim_hand1 O18 (c19.1 : Sl Int) (fun z1 => AV.tup [z1, iv c19.2]) (by intro b; simp only [mat_tup, mat_aggD, mat_agg, matLc, matLn, mat_iv, mat_bv, mat_sv, mat_bt, mat_nilS, mat_rS, List.append_nil, List.nil_append, List.length_nil, Nat.add_zero]) (by simp only [noF_tup, noF_aggD, noF_agg, noF_iv, noF_bv, noF_sv, noF_bt, noF_nilS, noF_rS, List.all_cons, List.all_nil, Bool.and_self]) (fun x21 h22 O23 => ?_)
    replace O23 : Hold B h22 [(x5, obS (c3.points : Sl Point)), (AV.ptr o8 1 0 0, .pt 1 [x5]), (x16, obS (c14.1 : Sl Int)), (x21, obS (c19.1 : Sl Int))] := O23
    refine sim_let (v := x21) rfl ?_
    refine sim_let (v := iv c19.2) rfl ?_
    refine sim_let (v := AV.agg [x5]) (O23.ld 1 rfl true 1 0) ?_
    refine sim_call1 he_impl_SpotsOf (snapD_own h22 c3 rfl (by simp [omap, O23.snap7 (A := Point) (s := c3.points) 0 rfl])) (fun c24 => ?_)
    refine sim_hand1 O23 (c24.1 : Sl Spot) (fun z1 => AV.tup [z1, iv c24.2]) (by intro b; simp only [mat_tup, mat_aggD, mat_agg, matLc, matLn, mat_iv, mat_bv, mat_sv, mat_bt, mat_nilS, mat_rS, List.append_nil, List.nil_append, List.length_nil, Nat.add_zero]) (by simp only [noF_tup, noF_aggD, noF_agg, noF_iv, noF_bv, noF_sv, noF_bt, noF_nilS, noF_rS, List.all_cons, List.all_nil, Bool.and_self]) (fun x26 h27 O28 => ?_)
    replace O28 : Hold B h27 [(x5, obS (c3.points : Sl Point)), (AV.ptr o8 1 0 0, .pt 1 [x5]), (x16, obS (c14.1 : Sl Int)), (x21, obS (c19.1 : Sl Int)), (x26, obS (c24.1 : Sl Spot))] := O28
    refine sim_let (v := x26) rfl ?_
    refine sim_let (v := iv c24.2) rfl ?_
    refine sim_let (v := AV.agg [x5]) (O28.ld 1 rfl true 1 0) ?_
    refine sim_call1 he_spec_SpotsOf (snapD_own h27 c3 rfl (by simp [omap, O28.snap7 (A := Point) (s := c3.points) 0 rfl])) (fun c29 => ?_)
    refine sim_hand1 O28 (c29.1 : Sl Spot) (fun z1 => AV.tup [z1, iv c29.2]) (by intro b; simp only [mat_tup, mat_aggD, mat_agg, matLc, matLn, mat_iv, mat_bv, mat_sv, mat_bt, mat_nilS, mat_rS, List.append_nil, List.nil_append, List.length_nil, Nat.add_zero]) (by simp only [noF_tup, noF_aggD, noF_agg, noF_iv, noF_bv, noF_sv, noF_bt, noF_nilS, noF_rS, List.all_cons, List.all_nil, Bool.and_self]) (fun x31 h32 O33 => ?_)
    replace O33 : Hold B h32 [(x5, obS (c3.points : Sl Point)), (AV.ptr o8 1 0 0, .pt 1 [x5]), (x16, obS (c14.1 : Sl Int)), (x21, obS (c19.1 : Sl Int)), (x26, obS (c24.1 : Sl Spot)), (x31, obS (c29.1 : Sl Spot))] := O33
    refine sim_let (v := x31) rfl ?_
    refine sim_let (v := iv c29.2) rfl ?_
    refine sim_let (v := AV.agg [x5]) (O33.ld 1 rfl true 1 0) ?_
    refine sim_call1 he_impl_SpeedsOf (snapD_own h32 c3 rfl (by simp [omap, O33.snap7 (A := Point) (s := c3.points) 0 rfl])) (fun c34 => ?_)
    refine sim_hand1 O33 (c34.1 : Sl Int) (fun z1 => AV.tup [z1, iv c34.2]) (by intro b; simp only [mat_tup, mat_aggD, mat_agg, matLc, matLn, mat_iv, mat_bv, mat_sv, mat_bt, mat_nilS, mat_rS, List.append_nil, List.nil_append, List.length_nil, Nat.add_zero]) (by simp only [noF_tup, noF_aggD, noF_agg, noF_iv, noF_bv, noF_sv, noF_bt, noF_nilS, noF_rS, List.all_cons, List.all_nil, Bool.and_self]) (fun x36 h37 O38 => ?_)
    replace O38 : Hold B h37 [(x5, obS (c3.points : Sl Point)), (AV.ptr o8 1 0 0, .pt 1 [x5]), (x16, obS (c14.1 : Sl Int)), (x21, obS (c19.1 : Sl Int)), (x26, obS (c24.1 : Sl Spot)), (x31, obS (c29.1 : Sl Spot)), (x36, obS (c34.1 : Sl Int))] := O38
    refine sim_let (v := x36) rfl ?_
    refine sim_let (v := iv c34.2) rfl ?_
    refine sim_let (v := AV.agg [x5]) (O38.ld 1 rfl true 1 0) ?_
    refine sim_call1 he_spec_SpeedsOf (snapD_own h37 c3 rfl (by simp [omap, O38.snap7 (A := Point) (s := c3.points) 0 rfl])) (fun c39 => ?_)
    refine sim_hand1 O38 (c39.1 : Sl Int) (fun z1 => AV.tup [z1, iv c39.2]) (by intro b; simp only [mat_tup, mat_aggD, mat_agg, matLc, matLn, mat_iv, mat_bv, mat_sv, mat_bt, mat_nilS, mat_rS, List.append_nil, List.nil_append, List.length_nil, Nat.add_zero]) (by simp only [noF_tup, noF_aggD, noF_agg, noF_iv, noF_bv, noF_sv, noF_bt, noF_nilS, noF_rS, List.all_cons, List.all_nil, Bool.and_self]) (fun x41 h42 O43 => ?_)
    replace O43 : Hold B h42 [(x5, obS (c3.points : Sl Point)), (AV.ptr o8 1 0 0, .pt 1 [x5]), (x16, obS (c14.1 : Sl Int)), (x21, obS (c19.1 : Sl Int)), (x26, obS (c24.1 : Sl Spot)), (x31, obS (c29.1 : Sl Spot)), (x36, obS (c34.1 : Sl Int)), (x41, obS (c39.1 : Sl Int))] := O43
    refine sim_let (v := x41) rfl ?_
    refine sim_let (v := iv c39.2) rfl ?_
    refine sim_let (v := AV.agg [x5]) (O43.ld 1 rfl true 1 0) ?_
    refine sim_call1 he_impl_LongestPause (snapD_own h42 c3 rfl (by simp [omap, O43.snap7 (A := Point) (s := c3.points) 0 rfl])) (fun c44 => ?_)
    refine sim_let2 (hand_plain (by rfl) _ _) ?_
    refine sim_let (v := iv c44.1) rfl ?_
    refine sim_let (v := iv c44.2) rfl ?_
    refine sim_let (v := AV.agg [x5]) (O43.ld 1 rfl true 1 0) ?_
    refine sim_call1 he_spec_LongestPause (snapD_own h42 c3 rfl (by simp [omap, O43.snap7 (A := Point) (s := c3.points) 0 rfl])) (fun c45 => ?_)
    refine sim_let2 (hand_plain (by rfl) _ _) ?_
    refine sim_let (v := iv c45.1) rfl ?_
    refine sim_let (v := iv c45.2) rfl ?_
    refine sim_call1 he_spec_DrawSameSpots (snapD_enc _ _) (fun c46 => ?_)
    refine sim_hand2 O43 (c46.1 : Sl Spot) (c46.2 : Sl Spot) (fun z1 z2 => AV.tup [z1, z2]) (by intro b; simp only [mat_tup, mat_aggD, mat_agg, matLc, matLn, mat_iv, mat_bv, mat_sv, mat_bt, mat_nilS, mat_rS, List.append_nil, List.nil_append, List.length_nil, Nat.add_zero]) (by simp only [noF_tup, noF_aggD, noF_agg, noF_iv, noF_bv, noF_sv, noF_bt, noF_nilS, noF_rS, List.all_cons, List.all_nil, Bool.and_self]) (fun x48 x50 h51 O52 => ?_)
    replace O52 : Hold B h51 [(x5, obS (c3.points : Sl Point)), (AV.ptr o8 1 0 0, .pt 1 [x5]), (x16, obS (c14.1 : Sl Int)), (x21, obS (c19.1 : Sl Int)), (x26, obS (c24.1 : Sl Spot)), (x31, obS (c29.1 : Sl Spot)), (x36, obS (c34.1 : Sl Int)), (x41, obS (c39.1 : Sl Int)), (x48, obS (c46.1 : Sl Spot)), (x50, obS (c46.2 : Sl Spot))] := O52
    refine sim_let (v := x48) rfl ?_
    refine sim_let (v := x50) rfl ?_
    refine sim_let (v := bv (!decide (c14.2 = c19.2))) (aCmp_ne _ _) ?_
    refine sim_guardF (e := bv) (fun hb53 => ?_) (fun c55 => ?_)
    · refine sim_call2 he_laws_f6ints ((O52.tab (A := Int) (s := c14.1) 2 rfl).snap) ((O52.tab (A := Int) (s := c19.1) 3 rfl).snap) (fun c54 => ?_)
      refine sim_let2 (hand_plain (by rfl) _ _) ?_
      refine sim_let (v := bv (!c54)) (aUn_not _) ?_
      exact sim_ret rfl
    · refine sim_let (v := bv (bif !decide (c14.2 = c19.2) then true else c55)) (pick_b' _ _ _) ?_
      refine sim_guardF (e := bv) (fun hb56 => ?_) (fun c57 => ?_)
      · refine sim_let (v := bv (!decide (c24.2 = c29.2))) (aCmp_ne _ _) ?_
        exact sim_ret rfl
      · refine sim_let (v := bv (bif (bif !decide (c14.2 = c19.2) then true else c55) then true else c57)) (pick_b' _ _ _) ?_
        refine sim_guardF (e := bv) (fun hb58 => ?_) (fun c60 => ?_)
        · refine sim_call2 he_spec_SameSpots ((O52.tab (A := Spot) (s := c24.1) 4 rfl).snap) ((O52.tab (A := Spot) (s := c29.1) 5 rfl).snap) (fun c59 => ?_)
          refine sim_let2 (hand_plain (by rfl) _ _) ?_
          refine sim_let (v := bv (!c59)) (aUn_not _) ?_
          exact sim_ret rfl
        · refine sim_let (v := bv (bif (bif (bif !decide (c14.2 = c19.2) then true else c55) then true else c57) then true else c60)) (pick_b' _ _ _) ?_
          refine sim_guardF (e := bv) (fun hb61 => ?_) (fun c62 => ?_)
          · refine sim_let (v := bv (!decide (c34.2 = c39.2))) (aCmp_ne _ _) ?_
            exact sim_ret rfl
          · refine sim_let (v := bv (bif (bif (bif (bif !decide (c14.2 = c19.2) then true else c55) then true else c57) then true else c60) then true else c62)) (pick_b' _ _ _) ?_
            refine sim_guardF (e := bv) (fun hb63 => ?_) (fun c65 => ?_)
            · refine sim_call2 he_laws_f6ints ((O52.tab (A := Int) (s := c34.1) 6 rfl).snap) ((O52.tab (A := Int) (s := c39.1) 7 rfl).snap) (fun c64 => ?_)
              refine sim_let2 (hand_plain (by rfl) _ _) ?_
              refine sim_let (v := bv (!c64)) (aUn_not _) ?_
              exact sim_ret rfl
            · refine sim_let (v := bv (bif (bif (bif (bif (bif !decide (c14.2 = c19.2) then true else c55) then true else c57) then true else c60) then true else c62) then true else c65)) (pick_b' _ _ _) ?_
              refine sim_guardF (e := bv) (fun hb66 => ?_) (fun c67 => ?_)
              · refine sim_let (v := bv (!decide (c44.2 = c45.2))) (aCmp_ne _ _) ?_
                exact sim_ret rfl
              · refine sim_let (v := bv (bif (bif (bif (bif (bif (bif !decide (c14.2 = c19.2) then true else c55) then true else c57) then true else c60) then true else c62) then true else c65) then true else c67)) (pick_b' _ _ _) ?_
                refine sim_guardF (e := bv) (fun hb68 => ?_) (fun c69 => ?_)
                · refine sim_let (v := bv (!decide (c44.1 = c45.1))) (aCmp_ne _ _) ?_
                  exact sim_ret rfl
                · refine sim_let (v := bv (bif (bif (bif (bif (bif (bif (bif !decide (c14.2 = c19.2) then true else c55) then true else c57) then true else c60) then true else c62) then true else c65) then true else c67) then true else c69)) (pick_b' _ _ _) ?_
                  refine sim_guardF (e := bv) (fun hb70 => ?_) (fun c73 => ?_)
                  · refine sim_call2 he_impl_SameSpots ((O52.tab (A := Spot) (s := c46.1) 8 rfl).snap) ((O52.tab (A := Spot) (s := c46.2) 9 rfl).snap) (fun c71 => ?_)
                    refine sim_let2 (hand_plain (by rfl) _ _) ?_
                    refine sim_call2 he_spec_SameSpots ((O52.tab (A := Spot) (s := c46.1) 8 rfl).snap) ((O52.tab (A := Spot) (s := c46.2) 9 rfl).snap) (fun c72 => ?_)
                    refine sim_let2 (hand_plain (by rfl) _ _) ?_
                    refine sim_let (v := bv (!(c71 == c72))) (aCmp_neB _ _) ?_
                    exact sim_ret rfl
                  · refine sim_let (v := bv (bif (bif (bif (bif (bif (bif (bif (bif !decide (c14.2 = c19.2) then true else c55) then true else c57) then true else c60) then true else c62) then true else c65) then true else c67) then true else c69) then true else c73)) (pick_b' _ _ _) ?_
                    refine sim_cond (fun c74 => ?_) (fun c74 => ?_)
                    · exact sim_ret (release_plain (by rfl) _)
                    · refine sim_let (v := bv (!decide (c14.2 = 0))) (aCmp_ne _ _) ?_
                      refine sim_cond (fun c75 => ?_) (fun c75 => ?_)
                      · exact sim_ret (release_plain (by rfl) _)
                      · refine sim_let (v := AV.agg [x5]) (O52.ld 1 rfl true 1 0) ?_
                        refine sim_call1 he_impl_StrokeLength (snapD_own h51 c3 rfl (by simp [omap, O52.snap7 (A := Point) (s := c3.points) 0 rfl])) (fun c76 => ?_)
                        refine sim_let2 (hand_plain (by rfl) _ _) ?_
                        refine sim_let (v := iv c76.1) rfl ?_
                        refine sim_let (v := iv c76.2) rfl ?_
                        refine sim_bind ((tl0_laws_FnArcs env he_impl_ArcsOf he_impl_LongestPause he_impl_SameSpots he_impl_SpeedsOf he_impl_SpotsOf he_impl_StrokeLength he_laws_f6big he_laws_f6ints he_spec_ArcsOf he_spec_DrawArcsOf he_spec_DrawSameSpots he_spec_LongestPause he_spec_SameSpots he_spec_SpeedsOf he_spec_SpotsOf code_ c1 c3 x5 o8 c14 x16 c19 x21 c24 x26 c29 x31 c34 x36 c39 x41 c44 c45 c46 x48 x50 c55 c57 c60 c62 c65 c67 c69 c73 c76) ⟨rfl, O52⟩) (fun qq118 r hq => ?_)
                        rcases qq118 with _ | q102
                        · obtain ⟨q83, z82, h80, rfl, O81⟩ := hq
                          rw [e_lk0x0_laws_FnArcs]
                          refine sim_let (v := bv (decide (c76.2 = 0))) (aCmp_eq _ _) ?_
                          refine sim_guardT (e := bv) (fun hb84 => ?_) (fun c85 => ?_)
                          · refine sim_let (v := iv (((c14.1.getD []).length : Nat) : Int)) (O81.tab (A := Int) (s := c14.1) 2 rfl).len ?_
                            refine sim_let (v := bv (decide (0 < (((c14.1.getD []).length : Nat) : Int)))) (aBin_gtr _ _) ?_
                            exact sim_ret rfl
                          · refine sim_let (v := bv (bif decide (c76.2 = 0) then c85 else false)) (pick_b _ _ _) ?_
                            refine sim_guardT (e := bv) (fun hb86 => ?_) (fun c91 => ?_)
                            · refine sim_get (O81.tab (A := Int) (s := c14.1) 2 rfl) (fun m88 a87 hi89 hm90 => ?_)
                              refine sim_let (v := iv a87) ((O81.tab (A := Int) (s := c14.1) 2 rfl).ld hm90 false 1 0) ?_
                              refine sim_let (v := bv (decide (a87 = 0))) (aCmp_eq _ _) ?_
                              exact sim_ret rfl
                            · refine sim_let (v := bv (bif (bif decide (c76.2 = 0) then c85 else false) then c91 else false)) (pick_b _ _ _) ?_
                              refine sim_guardT (e := bv) (fun hb92 => ?_) (fun c97 => ?_)
                              · refine sim_let (v := iv (((c14.1.getD []).length : Nat) : Int)) (O81.tab (A := Int) (s := c14.1) 2 rfl).len ?_
                                refine sim_let (v := iv (wr ((((c14.1.getD []).length : Nat) : Int) - 1))) (aBin_sub _ _) ?_
                                refine sim_get (O81.tab (A := Int) (s := c14.1) 2 rfl) (fun m94 a93 hi95 hm96 => ?_)
                                refine sim_let (v := iv a93) ((O81.tab (A := Int) (s := c14.1) 2 rfl).ld hm96 false 1 0) ?_
                                refine sim_let (v := bv (decide (a93 = c76.1))) (aCmp_eq _ _) ?_
                                exact sim_ret rfl
                              · refine sim_let (v := bv (bif (bif (bif decide (c76.2 = 0) then c85 else false) then c91 else false) then c97 else false)) (pick_b _ _ _) ?_
                                refine sim_guardT (e := bv) (fun hb98 => ?_) (fun c99 => ?_)
                                · refine sim_let (v := iv (((c34.1.getD []).length : Nat) : Int)) (O81.tab (A := Int) (s := c34.1) 6 rfl).len ?_
                                  refine sim_let (v := iv (((c14.1.getD []).length : Nat) : Int)) (O81.tab (A := Int) (s := c14.1) 2 rfl).len ?_
                                  refine sim_let (v := iv (wr ((((c14.1.getD []).length : Nat) : Int) - 1))) (aBin_sub _ _) ?_
                                  refine sim_let (v := bv (decide ((((c34.1.getD []).length : Nat) : Int) = wr ((((c14.1.getD []).length : Nat) : Int) - 1)))) (aCmp_eq _ _) ?_
                                  exact sim_ret rfl
                                · refine sim_let (v := bv (bif (bif (bif (bif decide (c76.2 = 0) then c85 else false) then c91 else false) then c97 else false) then c99 else false)) (pick_b _ _ _) ?_
                                  exact sim_ret (release_plain (by rfl) _)
                        · obtain ⟨q103, h100, rfl, O101⟩ := hq
                          rw [e_lk0r_laws_FnArcs]
                          exact sim_ret (release_plain (by rfl) _)
theorem tt_laws_FnArcs : PureOK Try.prog n_laws_FnArcs (C1 (fun c : Bool => enc c) t_laws_FnArcs) := pureC1 (Econs tt_impl_ArcsOf (Econs tt_impl_LongestPause (Econs tt_impl_SameSpots (Econs tt_impl_SpeedsOf (Econs tt_impl_SpotsOf (Econs tt_impl_StrokeLength (Econs tt_laws_f6big (Econs tt_laws_f6ints (Econs tt_spec_ArcsOf (Econs tt_spec_DrawArcsOf (Econs tt_spec_DrawSameSpots (Econs tt_spec_LongestPause (Econs tt_spec_SameSpots (Econs tt_spec_SpeedsOf (Econs tt_spec_SpotsOf E0))))))))))))))) mixed hb_laws_FnArcs fun code_ => ts_laws_FnArcs _ (by simp [envL]) (by simp [envL]) (by simp [envL]) (by simp [envL]) (by simp [envL]) (by simp [envL]) (by simp [envL]) (by simp [envL]) (by simp [envL]) (by simp [envL]) (by simp [envL]) (by simp [envL]) (by simp [envL]) (by simp [envL]) (by simp [envL]) code_

/-- The source has been read up to `k` at most. -/
structure SK (s : l00Src) (k : Int) : Prop where
  lo : 0 ≤ s.pos
  hi : s.pos ≤ k

theorem SK.mono {s : l00Src} {k k' : Int} (h : SK s k) (hk : k ≤ k') : SK s k' := ⟨h.lo, by have := h.hi; omega⟩

theorem and255 (a : Int) : 0 ≤ wr (IntKind.u64.wrap ((BitVec.ofInt 64 a &&& BitVec.ofInt 64 255).toNat : Nat)) ∧ wr (IntKind.u64.wrap ((BitVec.ofInt 64 a &&& BitVec.ofInt 64 255).toNat : Nat)) ≤ 255 := by
  have h1 : (BitVec.ofInt 64 a &&& BitVec.ofInt 64 255).toNat ≤ 255 := by
    rw [BitVec.toNat_and]
    have : (BitVec.ofInt 64 255).toNat = 255 := by decide
    rw [this]
    exact Nat.and_le_right
  generalize (BitVec.ofInt 64 a &&& BitVec.ofInt 64 255).toNat = r at h1
  have h2 : IntKind.u64.wrap (r : Int) = r := by
    simp only [IntKind.wrap, IntKind.bits, IntKind.signed]
    simp only [Bool.false_and, Bool.false_eq_true, if_false]
    omega
  rw [h2, wr_id (by omega) (by omega)]
  omega

theorem getI_in {A : Type} {l : List A} {i : Int} (h0 : 0 ≤ i) (h1 : i < (l.length : Nat)) : ∃ a, getI l i = some a ∧ l[i.toNat]? = some a := by
  obtain ⟨m, rfl⟩ := Int.eq_ofNat_of_zero_le h0
  have h2 : m < l.length := by omega
  exact ⟨l[m], getI_nat (List.getElem?_eq_getElem h2), by simp [h2]⟩

theorem remI_pos {a b : Int} (ha : 0 ≤ a) (hb : 0 < b) : ∃ r, remI a b = some r ∧ 0 ≤ r ∧ r < b := by
  refine ⟨a.tmod b, ?_, Int.tmod_nonneg b ha, Int.tmod_lt_of_pos a hb⟩
  have : ¬ b = 0 := by omega
  simp [remI, this]

theorem dr_next {s : l00Src} {k : Int} (h : SK s k) (hk : k ≤ 1000000000000) : ∃ r s', t_spec_l00Src_next s = some (r, s') ∧ SK s' (k + 1) ∧ 0 ≤ r ∧ r ≤ 255 := by
  obtain ⟨h1, h2⟩ := h
  have w : wr (s.pos + 1) = s.pos + 1 := wr_id (by omega) (by omega)
  have b1 := fun a => (and255 a).1
  have b2 := fun a => (and255 a).2
  unfold t_spec_l00Src_next
  rw [w]
  by_cases c : s.pos < ((s.code.getD []).length : Nat)
  · obtain ⟨a, ha, _⟩ := getI_in h1 c
    have c2 : s.pos + 1 ≤ ((s.code.getD []).length : Nat) := by omega
    have := a.toNat_lt
    simp only [c, decide_true, cond_true, ha, obind_sm, c2]
    exact ⟨_, _, rfl, ⟨by simp only; omega, by simp only; omega⟩, by omega, by omega⟩
  · have c2 : ¬ s.pos + 1 ≤ ((s.code.getD []).length : Nat) := by omega
    simp only [c, decide_false, cond_false, c2]
    exact ⟨_, _, rfl, ⟨by simp only; omega, by simp only; omega⟩, b1 _, b2 _⟩

theorem dr_pick {s : l00Src} {k : Int} (h : SK s k) (hk : k ≤ 100000000000) {n : Int} (hn : n ≤ 60000) : ∃ r s', t_spec_l00Src_pick s n = some (r, s') ∧ SK s' (k + 2) ∧ 0 ≤ r ∧ (1 ≤ n → r < n) ∧ (n ≤ 1 → r = 0) := by
  unfold t_spec_l00Src_pick
  by_cases c : n ≤ 1
  · simp only [c, decide_true, cond_true]
    exact ⟨0, _, rfl, ⟨h.lo, by have := h.hi; simp only; omega⟩, by omega, fun _ => by omega, fun _ => rfl⟩
  · obtain ⟨r1, s1, e1, k1, p1, q1⟩ := dr_next h (by omega)
    simp only [c, decide_false, cond_false]
    have e1' : t_spec_l00Src_next ⟨s.code, s.pos, s.seed⟩ = some (r1, s1) := e1
    rw [e1', obind_sm]
    by_cases c2 : 200 < n
    · obtain ⟨r2, s2, e2, k2, p2, q2⟩ := dr_next k1 (by omega)
      have e2' : t_spec_l00Src_next ⟨s1.code, s1.pos, s1.seed⟩ = some (r2, s2) := e2
      have w1 : wr (r1 * 256) = r1 * 256 := wr_id (by omega) (by omega)
      have w2 : wr (r1 * 256 + r2) = r1 * 256 + r2 := wr_id (by omega) (by omega)
      obtain ⟨q, e3, p3, q3⟩ := remI_pos (a := r1 * 256 + r2) (b := n) (by omega) (by omega)
      simp only [c2, decide_true, cond_true, e2', obind_sm, w1, w2, e3]
      exact ⟨_, _, rfl, ⟨k2.lo, by have := k2.hi; simp only; omega⟩, p3, fun _ => q3, fun h => False.elim h⟩
    · obtain ⟨q, e3, p3, q3⟩ := remI_pos (a := r1) (b := n) (by omega) (by omega)
      simp only [c2, decide_false, cond_false, e3, obind_sm]
      exact ⟨_, _, rfl, ⟨k1.lo, by have := k1.hi; simp only; omega⟩, p3, fun _ => q3, fun h => False.elim h⟩

theorem dr_one {s : l00Src} {k : Int} (h : SK s k) (hk : k ≤ 100000000000) {n : Int} (hn : n ≤ 60000) : ∃ b s', t_spec_l00Src_one s n = some (b, s') ∧ SK s' (k + 2) := by
  obtain ⟨r, s', e, k', _⟩ := dr_pick h hk hn
  have e' : t_spec_l00Src_pick ⟨s.code, s.pos, s.seed⟩ n = some (r, s') := e
  unfold t_spec_l00Src_one
  simp only [e', obind_sm]
  exact ⟨_, _, rfl, k'⟩

theorem dr_among {s : l00Src} {k : Int} (h : SK s k) (hk : k ≤ 100000000000) {l : List Int} (h0 : l ≠ []) (hl : l.length ≤ 60000) : ∃ r s', t_spec_l00Src_among s (some l) = some (r, s') ∧ SK s' (k + 2) ∧ r ∈ l := by
  have hp : 0 < l.length := List.length_pos_iff.2 h0
  obtain ⟨r, s', e, k', p, q, _⟩ := dr_pick h hk (n := (l.length : Nat)) (by omega)
  have e' : t_spec_l00Src_pick ⟨s.code, s.pos, s.seed⟩ (l.length : Nat) = some (r, s') := e
  obtain ⟨a, ha, ha2⟩ := getI_in (l := l) p (q (by omega))
  unfold t_spec_l00Src_among
  simp only [Option.getD_some, e', obind_sm, ha]
  exact ⟨_, _, rfl, k', List.mem_of_getElem? ha2⟩

theorem wr_succ {k n : Nat} (h : k < n) (hn : n ≤ 4294967296) : wr ((k : Int) + 1) = ((k + 1 : Nat) : Int) := by
  rw [wr_id (by omega) (by omega)]
  omega

theorem get_lt {A : Type} {l : List A} {k : Nat} {a : A} (h : l[k]? = some a) : k < l.length := (List.getElem?_eq_some_iff.1 h).1

/-- A point that is one; the points of a stroke that is one. -/
structure PtV (p : Point) : Prop where
  x0 : 0 ≤ p.x
  x1 : p.x ≤ 4095
  y0 : 0 ≤ p.y
  y1 : p.y ≤ 4095
  t0 : 0 ≤ p.t
  t1 : p.t ≤ 3600000

structure StV (l : List Point) : Prop where
  pts : ∀ p ∈ l, PtV p
  inc : ∀ (k : Nat) p q, l[k]? = some p → l[k + 1]? = some q → p.t < q.t
  n1 : 1 ≤ l.length
  n2 : l.length ≤ 60

/-- Points of a bounded size. -/
structure PtB (p : Point) : Prop where
  x0 : -10000000 ≤ p.x
  x1 : p.x ≤ 10000000
  y0 : -10000000 ≤ p.y
  y1 : p.y ≤ 10000000
  t0 : -10000000 ≤ p.t
  t1 : p.t ≤ 10000000

structure StB (s : Stroke) : Prop where
  n : (s.points.getD []).length ≤ 100
  pts : ∀ p ∈ s.points.getD [], PtB p

theorem PtV.b {p : Point} (h : PtV p) : PtB p := by
  obtain ⟨h1, h2, h3, h4, h5, h6⟩ := h
  exact ⟨by omega, by omega, by omega, by omega, by omega, by omega⟩

theorem StV.b {l : List Point} (h : StV l) : StB ⟨some l⟩ := ⟨Nat.le_trans h.n2 (by omega), fun p hp => (h.pts p hp).b⟩

theorem appS_cons {A : Type} (s : Sl A) (a : A) (l : List A) : appS s (a :: l) = some (s.getD [] ++ a :: l) := by cases s <;> rfl

theorem appO_one {A : Type} (s : Sl A) (a : A) (h : (s.getD []).length ≤ 1000000) : appO s [a] = some (some (s.getD [] ++ [a])) := by
  rw [appO_some (by simp; omega), appS_cons]

theorem inc_app {l : List Point} {p : Point} (h : ∀ (k : Nat) p q, l[k]? = some p → l[k + 1]? = some q → p.t < q.t) (hp : ∀ q ∈ l, q.t < p.t) : ∀ (k : Nat) a b, (l ++ [p])[k]? = some a → (l ++ [p])[k + 1]? = some b → a.t < b.t := by
  intro k a b h1 h2
  have hk := get_lt h2
  simp only [List.length_append, List.length_cons, List.length_nil] at hk
  rw [List.getElem?_append_left (by omega)] at h1
  by_cases c : k + 1 < l.length
  · rw [List.getElem?_append_left c] at h2
    exact h k a b h1 h2
  · have e : k + 1 = l.length := by omega
    rw [e, List.getElem?_append_right (Nat.le_refl _), Nat.sub_self] at h2
    simp at h2
    subst h2
    exact hp a (List.mem_of_getElem? h1)

theorem cl_4095 (x : Int) : 0 ≤ max (0 : Int) (min 4095 x) ∧ max (0 : Int) (min 4095 x) ≤ 4095 := by omega

/-- What the drawing of a stroke keeps. -/
structure StI (s : Sl Point) (i : Nat) (t0 t : Int) : Prop where
  len : (s.getD []).length = i
  som : 0 < i → ∃ l, s = .some l
  pts : ∀ p ∈ s.getD [], PtV p ∧ t0 ≤ p.t ∧ p.t < t
  inc : ∀ (k : Nat) p q, (s.getD [])[k]? = some p → (s.getD [])[k + 1]? = some q → p.t < q.t

theorem StI.step {s : Sl Point} {i : Nat} {t0 t t' x y : Int} (h : StI s i t0 t) (hx : 0 ≤ x ∧ x ≤ 4095) (hy : 0 ≤ y ∧ y ≤ 4095) (ht : t0 ≤ t) (h0 : 0 ≤ t0) (h1 : t ≤ 3600000) (ht' : t < t') : StI (some (s.getD [] ++ [⟨x, y, t⟩])) (i + 1) t0 t' := by
  refine ⟨by simp [h.len], fun _ => ⟨_, rfl⟩, fun p hp => ?_, inc_app h.inc fun q hq => (h.pts q hq).2.2⟩
  rcases List.mem_append.1 hp with hp | hp
  · have := h.pts p hp
    exact ⟨this.1, this.2.1, by omega⟩
  · simp only [List.mem_singleton] at hp
    subst hp
    exact ⟨⟨hx.1, hx.2, hy.1, hy.2, by simp only; omega, by simp only; omega⟩, ht, ht'⟩

theorem dr_stroke {s : l00Src} {k : Int} (h : SK s k) (hk : k ≤ 1000000000) {time x y : Int} (t0 : 0 ≤ time) (t1 : time ≤ 3000000) (hx : 0 ≤ x ∧ x ≤ 4095) (hy : 0 ≤ y ∧ y ≤ 4095) :
    ∃ l s', t_spec_l02DrawStroke s time x y = some (⟨some l⟩, s') ∧ SK s' (k + 1000) ∧ StV l ∧ l.length ≤ 10 ∧ ∀ p ∈ l, time ≤ p.t ∧ p.t ≤ time + 300 := by
  obtain ⟨r1, s1, e1, k1, p1, q1, _⟩ := dr_pick h (by omega) (n := 60) (by omega)
  obtain ⟨r2, s2, e2, k2, p2, q2, _⟩ := dr_pick k1 (by omega) (n := 60) (by omega)
  obtain ⟨r3, s3, e3, k3, p3, q3, _⟩ := dr_pick k2 (by omega) (n := 10) (by omega)
  have q1' := q1 (by omega)
  have q2' := q2 (by omega)
  have q3' := q3 (by omega)
  have w1 : wr (1 + r3) = 1 + r3 := wr_id (by omega) (by omega)
  have w2 : wr (r1 - 20) = r1 - 20 := wr_id (by omega) (by omega)
  have w3 : wr (r2 - 30) = r2 - 30 := wr_id (by omega) (by omega)
  obtain ⟨N, hN⟩ := Int.eq_ofNat_of_zero_le (a := 1 + r3) (by omega)
  unfold t_spec_l02DrawStroke
  simp only [e1, e2, e3, obind_sm, w1, w2, w3]
  obtain ⟨⟨c1, c2, c3, c4⟩, f1, f2, f3⟩ := loopT_ex (step := s0_spec_l02DrawStroke) (fun i (t : (Sl UInt8) × Int × Int × (Sl Point) × Int × Int × Int × Int × Int × Int) => SK ⟨t.1, t.2.1, t.2.2.1⟩ (k + 6 + 12 * i) ∧ StI t.2.2.2.1 i time t.2.2.2.2.1 ∧ (time ≤ t.2.2.2.2.1 ∧ t.2.2.2.2.1 ≤ time + 20 * i) ∧
      (0 ≤ t.2.2.2.2.2.1 ∧ t.2.2.2.2.2.1 ≤ 4095) ∧ (0 ≤ t.2.2.2.2.2.2.1 ∧ t.2.2.2.2.2.2.1 ≤ 4095) ∧ (-100 ≤ t.2.2.2.2.2.2.2.1 ∧ t.2.2.2.2.2.2.2.1 ≤ 100) ∧ (-100 ≤ t.2.2.2.2.2.2.2.2.1 ∧ t.2.2.2.2.2.2.2.2.1 ≤ 100) ∧ t.2.2.2.2.2.2.2.2.2 = N - (i : Int))
    N (fun r => SK ⟨r.1, r.2.1, r.2.2.1⟩ (k + 6 + 12 * N) ∧ StI r.2.2.2 N time (time + 20 * N + 1))
    (fun i ⟨v1, v2, v3, v4, v5, v6, v7, v8, v9, v10⟩ hi ⟨g1, g2, g3, g4, g5, g6, g7, g8⟩ => by
      simp only at g1 g2 g3 g4 g5 g6 g7 g8
      obtain ⟨r4, s4, e4, k4, p4, q4, _⟩ := dr_pick g1 (by omega) (n := 20) (by omega)
      obtain ⟨r5, s5, e5, k5, p5, q5, _⟩ := dr_pick k4 (by omega) (n := 9) (by omega)
      obtain ⟨r6, s6, e6, k6, p6, q6, _⟩ := dr_pick k5 (by omega) (n := 9) (by omega)
      obtain ⟨b7, s7, e7, k7⟩ := dr_one k6 (by omega) (n := 3) (by omega)
      have q4' := q4 (by omega)
      have q5' := q5 (by omega)
      have q6' := q6 (by omega)
      have a0 := appO_one v4 (⟨v6, v7, v5⟩ : Point) (by rw [g2.len]; omega)
      have a0' : appS v4 [(⟨v6, v7, v5⟩ : Point)] = some (v4.getD [] ++ [⟨v6, v7, v5⟩]) := appS_cons _ _ _
      have a1 : wr (v6 + v8) = v6 + v8 := wr_id (by omega) (by omega)
      have a2 : wr (v6 + v8 + r5) = v6 + v8 + r5 := wr_id (by omega) (by omega)
      have a3 : wr (v6 + v8 + r5 - 4) = v6 + v8 + r5 - 4 := wr_id (by omega) (by omega)
      have a4 : wr (v7 + v9) = v7 + v9 := wr_id (by omega) (by omega)
      have a5 : wr (v7 + v9 + r6) = v7 + v9 + r6 := wr_id (by omega) (by omega)
      have a6 : wr (v7 + v9 + r6 - 4) = v7 + v9 + r6 - 4 := wr_id (by omega) (by omega)
      have a7 : wr (1 + r4) = 1 + r4 := wr_id (by omega) (by omega)
      have a8 : wr (v5 + (1 + r4)) = v5 + (1 + r4) := wr_id (by omega) (by omega)
      have a9 : wr (v10 - 1) = v10 - 1 := wr_id (by omega) (by omega)
      have c : 0 < v10 := by omega
      have st := g2.step (x := v6) (y := v7) (t' := v5 + (1 + r4)) g4 g5 (by omega) (by omega) (by omega) (by omega)
      cases b7 with
      | true =>
        obtain ⟨r8, s8, e8, k8, p8, q8, _⟩ := dr_pick k7 (by omega) (n := 80) (by omega)
        obtain ⟨r9, s9, e9, k9, p9, q9, _⟩ := dr_pick k8 (by omega) (n := 80) (by omega)
        have q8' := q8 (by omega)
        have q9' := q9 (by omega)
        have b1 : wr (r8 - 40) = r8 - 40 := wr_id (by omega) (by omega)
        have b2 : wr (r9 - 40) = r9 - 40 := wr_id (by omega) (by omega)
        have e : s0_spec_l02DrawStroke (v1, v2, v3, v4, v5, v6, v7, v8, v9, v10) = some (.inl (s9.code, s9.pos, s9.seed, some (v4.getD [] ++ [⟨v6, v7, v5⟩]), v5 + (1 + r4), max 0 (min 4095 (v6 + v8 + r5 - 4)), max 0 (min 4095 (v7 + v9 + r6 - 4)), r8 - 40, r9 - 40, v10 - 1)) := by
          unfold s0_spec_l02DrawStroke
          simp only [c, decide_true, cond_true, e4, e5, e6, e7, e8, e9, obind_sm, a0, a0', a1, a2, a3, a4, a5, a6, a7, a8, a9, b1, b2]
        exact .inl ⟨_, e, k9.mono (by omega), st, ⟨by simp only; omega, by simp only; omega⟩, cl_4095 _, cl_4095 _, ⟨by simp only; omega, by simp only; omega⟩, ⟨by simp only; omega, by simp only; omega⟩, by simp only; omega⟩
      | false =>
        have e : s0_spec_l02DrawStroke (v1, v2, v3, v4, v5, v6, v7, v8, v9, v10) = some (.inl (s7.code, s7.pos, s7.seed, some (v4.getD [] ++ [⟨v6, v7, v5⟩]), v5 + (1 + r4), max 0 (min 4095 (v6 + v8 + r5 - 4)), max 0 (min 4095 (v7 + v9 + r6 - 4)), v8, v9, v10 - 1)) := by
          unfold s0_spec_l02DrawStroke
          simp only [c, decide_true, cond_true, cond_false, e4, e5, e6, e7, obind_sm, a0, a0', a1, a2, a3, a4, a5, a6, a7, a8, a9]
        exact .inl ⟨_, e, k7.mono (by omega), st, ⟨by simp only; omega, by simp only; omega⟩, cl_4095 _, cl_4095 _, g6, g7, by simp only; omega⟩)
    (fun ⟨v1, v2, v3, v4, v5, v6, v7, v8, v9, v10⟩ ⟨g1, g2, g3, g4, g5, g6, g7, g8⟩ => by
      simp only at g1 g2 g3 g8
      have c : ¬ 0 < v10 := by omega
      have e : s0_spec_l02DrawStroke (v1, v2, v3, v4, v5, v6, v7, v8, v9, v10) = some (.inr (v1, v2, v3, v4)) := by
        unfold s0_spec_l02DrawStroke
        simp only [c, decide_false, cond_false]
      refine ⟨_, e, g1, g2.len, g2.som, fun p hp => ?_, g2.inc⟩
      have := g2.pts p hp
      exact ⟨this.1, this.2.1, by omega⟩)
    (s := (s3.code, s3.pos, s3.seed, none, time, x, y, r1 - 20, r2 - 30, 1 + r3)) ⟨k3.mono (by omega), ⟨rfl, fun h => by omega, fun p hp => (by cases hp), fun k p q h1 _ => (by simp at h1)⟩, ⟨by simp only; omega, by simp only; omega⟩, hx, hy, ⟨by simp only; omega, by simp only; omega⟩, ⟨by simp only; omega, by simp only; omega⟩, by simp only; omega⟩
  simp only at f2 f3
  obtain ⟨l, rfl⟩ := f3.som (by omega)
  have hl : l.length = N := f3.len
  rw [f1]
  refine ⟨l, _, rfl, f2.mono (by omega), ⟨fun p hp => (f3.pts p hp).1, f3.inc, by omega, by omega⟩, by omega, fun p hp => ?_⟩
  have := f3.pts p hp
  omega

theorem last_ok {l : List Point} (h : StV l) : ∃ p, t_spec_l02Last ⟨some l⟩ = some p.t ∧ l[l.length - 1]? = some p ∧ p ∈ l ∧ ∀ q ∈ l, q.t ≤ p.t := by
  have h1 := h.n1
  have h2 := h.n2
  obtain ⟨p, hp⟩ : ∃ p, l[l.length - 1]? = some p := ⟨l[l.length - 1], List.getElem?_eq_getElem (by omega)⟩
  have w : wr (((l.length : Nat) : Int) - 1) = ((l.length - 1 : Nat) : Int) := by rw [wr_id (by omega) (by omega)]; omega
  refine ⟨p, ?_, hp, List.mem_of_getElem? hp, fun q hq => ?_⟩
  · unfold t_spec_l02Last
    simp only [Option.getD_some, w, getI_nat hp, obind_sm]
  · obtain ⟨k, hk⟩ := List.mem_iff_getElem?.1 hq
    have key : ∀ (d k : Nat) (a b : Point), l[k]? = some a → l[k + d]? = some b → a.t ≤ b.t := by
      intro d
      induction d with
      | zero => intro k a b h1 h2; rw [Nat.add_zero, h1] at h2; cases h2; exact Int.le_refl _
      | succ d ih =>
        intro k a b h1 h2
        have hlt := get_lt h2
        obtain ⟨m, hm⟩ : ∃ m, l[k + d]? = some m := ⟨l[k + d], List.getElem?_eq_getElem (by omega)⟩
        have := ih k a m h1 hm
        have := h.inc (k + d) m b hm (by rw [Nat.add_assoc]; exact h2)
        omega
    have hk2 := get_lt hk
    exact key (l.length - 1 - k) k q p hk (by rw [← hp]; congr 1; omega)

/-- Ink that is one. -/
structure InkV (L : List Stroke) : Prop where
  st : ∀ s ∈ L, ∃ l, s = ⟨some l⟩ ∧ StV l
  inc : ∀ (k : Nat) l l', L[k]? = some ⟨some l⟩ → L[k + 1]? = some ⟨some l'⟩ → ∀ p ∈ l, ∀ q ∈ l', p.t < q.t
  n : L.length ≤ 16

/-- What the drawing of ink keeps. -/
structure InkI (s : Sl Stroke) (i : Nat) (t : Int) : Prop where
  len : (s.getD []).length = i
  som : 0 < i → ∃ l, s = .some l
  st : ∀ x ∈ s.getD [], ∃ l, x = ⟨some l⟩ ∧ StV l ∧ ∀ p ∈ l, p.t < t
  inc : ∀ (k : Nat) l l', (s.getD [])[k]? = some ⟨some l⟩ → (s.getD [])[k + 1]? = some ⟨some l'⟩ → ∀ p ∈ l, ∀ q ∈ l', p.t < q.t

theorem InkI.step {s : Sl Stroke} {i : Nat} {t t' : Int} {l : List Point} (h : InkI s i t) (hl : StV l) (h0 : ∀ p ∈ l, t ≤ p.t ∧ p.t < t') (ht : t ≤ t') : InkI (some (s.getD [] ++ [⟨some l⟩])) (i + 1) t' := by
  refine ⟨by simp [h.len], fun _ => ⟨_, rfl⟩, fun x hx => ?_, ?_⟩
  · rcases List.mem_append.1 hx with hx | hx
    · obtain ⟨l', e, h1, h2⟩ := h.st x hx
      exact ⟨l', e, h1, fun p hp => Int.lt_of_lt_of_le (h2 p hp) ht⟩
    · simp only [List.mem_singleton] at hx
      exact ⟨l, hx, hl, fun p hp => (h0 p hp).2⟩
  · intro k a b h1 h2
    simp only [Option.getD_some] at h1 h2
    have hk := get_lt h2
    simp only [List.length_append, List.length_cons, List.length_nil] at hk
    rw [List.getElem?_append_left (by omega)] at h1
    by_cases c : k + 1 < (s.getD []).length
    · rw [List.getElem?_append_left c] at h2
      exact h.inc k a b h1 h2
    · have e : k + 1 = (s.getD []).length := by omega
      rw [e, List.getElem?_append_right (Nat.le_refl _), Nat.sub_self] at h2
      simp only [List.getElem?_cons_zero, Option.some.injEq, Stroke.mk.injEq] at h2
      subst h2
      intro p hp q hq
      obtain ⟨l', e', _, h3⟩ := h.st _ (List.mem_of_getElem? h1)
      simp only [Stroke.mk.injEq, Option.some.injEq] at e'
      subst e'
      exact Int.lt_of_lt_of_le (h3 p hp) (h0 q hq).1

theorem dr_ink {s : l00Src} {k : Int} (h : SK s k) (hk : k ≤ 100000000) {most : Int} (h1 : 0 ≤ most) (h2 : most ≤ 10) : ∃ L s', t_spec_l02Draw s most = some (⟨L⟩, s') ∧ SK s' (k + 20000) ∧ InkV (L.getD []) ∧ (L.getD []).length ≤ most := by
  obtain ⟨r1, s1, e1, k1, p1, q1, _⟩ := dr_pick h (by omega) (n := 100) (by omega)
  obtain ⟨r2, s2, e2, k2, p2, q2, _⟩ := dr_pick k1 (by omega) (n := 200) (by omega)
  obtain ⟨r3, s3, e3, k3, p3, q3, _⟩ := dr_pick k2 (by omega) (n := most + 1) (by omega)
  have q1' := q1 (by omega)
  have q2' := q2 (by omega)
  have q3' := q3 (by omega)
  have w0 : wr (most + 1) = most + 1 := wr_id (by omega) (by omega)
  have w1 : wr (100 + r2) = 100 + r2 := wr_id (by omega) (by omega)
  obtain ⟨N, hN⟩ := Int.eq_ofNat_of_zero_le (a := r3) (by omega)
  unfold t_spec_l02Draw
  simp only [e1, e2, w0, e3, obind_sm, w1]
  obtain ⟨⟨c1, c2, c3, c4⟩, f1, f2, f3⟩ := loopT_ex (step := s0_spec_l02Draw) (fun i (t : (Sl UInt8) × Int × Int × (Sl Stroke) × Int × Int × Int) => SK ⟨t.1, t.2.1, t.2.2.1⟩ (k + 6 + 1100 * i) ∧ InkI t.2.2.2.1 i t.2.2.2.2.1 ∧ (0 ≤ t.2.2.2.2.1 ∧ t.2.2.2.2.1 ≤ 100 + 600 * i) ∧
      (0 ≤ t.2.2.2.2.2.1 ∧ t.2.2.2.2.2.1 ≤ 300 + 200 * i) ∧ t.2.2.2.2.2.2 = N - (i : Int))
    N (fun r => SK ⟨r.1, r.2.1, r.2.2.1⟩ (k + 6 + 1100 * N) ∧ ∃ t, InkI r.2.2.2 N t)
    (fun i ⟨v1, v2, v3, v4, v5, v6, v7⟩ hi ⟨g1, g2, g3, g4, g5⟩ => by
      simp only at g1 g2 g3 g4 g5
      obtain ⟨r4, s4, e4, k4, p4, q4, _⟩ := dr_pick g1 (by omega) (n := 200) (by omega)
      have q4' := q4 (by omega)
      have a1 : wr (300 + r4) = 300 + r4 := wr_id (by omega) (by omega)
      obtain ⟨l, s5, e5, k5, sv, _, st⟩ := dr_stroke k4 (by omega) (time := v5) (x := v6) (y := 300 + r4) (by omega) (by omega) (by omega) (by omega)
      obtain ⟨p, e6, _, pm, pl⟩ := last_ok sv
      obtain ⟨r7, s7, e7, k7, p7, q7, _⟩ := dr_pick k5 (by omega) (n := 200) (by omega)
      obtain ⟨r8, s8, e8, k8, p8, q8, _⟩ := dr_pick k7 (by omega) (n := 200) (by omega)
      have q7' := q7 (by omega)
      have q8' := q8 (by omega)
      have pt := st p pm
      have a0 := appO_one v4 (⟨some l⟩ : Stroke) (by rw [g2.len]; omega)
      have a0' : appS v4 [(⟨some l⟩ : Stroke)] = some (v4.getD [] ++ [⟨some l⟩]) := appS_cons _ _ _
      have a2 : wr (p.t + 1) = p.t + 1 := wr_id (by omega) (by omega)
      have a3 : wr (p.t + 1 + r7) = p.t + 1 + r7 := wr_id (by omega) (by omega)
      have a4 : wr (v6 + r8) = v6 + r8 := wr_id (by omega) (by omega)
      have a5 : wr (v7 - 1) = v7 - 1 := wr_id (by omega) (by omega)
      have c : 0 < v7 := by omega
      have e : s0_spec_l02Draw (v1, v2, v3, v4, v5, v6, v7) = some (.inl (s8.code, s8.pos, s8.seed, some (v4.getD [] ++ [⟨some l⟩]), p.t + 1 + r7, v6 + r8, v7 - 1)) := by
        unfold s0_spec_l02Draw
        simp only [c, decide_true, cond_true, e4, a1, e5, e6, e7, e8, obind_sm, a0, a0', a2, a3, a4, a5]
      have nx := g2.step (t' := p.t + 1 + r7) sv (fun q hq => ⟨(st q hq).1, by have := pl q hq; omega⟩) (by omega)
      exact .inl ⟨_, e, k8.mono (by omega), nx, ⟨by simp only; omega, by simp only; omega⟩, ⟨by simp only; omega, by simp only; omega⟩, by simp only; omega⟩)
    (fun ⟨v1, v2, v3, v4, v5, v6, v7⟩ ⟨g1, g2, g3, g4, g5⟩ => by
      simp only at g1 g2 g5
      have c : ¬ 0 < v7 := by omega
      have e : s0_spec_l02Draw (v1, v2, v3, v4, v5, v6, v7) = some (.inr (v1, v2, v3, v4)) := by
        unfold s0_spec_l02Draw
        simp only [c, decide_false, cond_false]
      exact ⟨_, e, g1, v5, g2⟩)
    (s := (s3.code, s3.pos, s3.seed, none, r1, 100 + r2, r3)) ⟨k3.mono (by omega), ⟨rfl, fun h => by omega, fun p hp => (by cases hp), fun k p q h1 _ => (by simp at h1)⟩, ⟨by simp only; omega, by simp only; omega⟩, ⟨by simp only; omega, by simp only; omega⟩, by simp only; omega⟩
  simp only at f2 f3
  obtain ⟨t, f3⟩ := f3
  rw [f1]
  refine ⟨c4, _, rfl, f2.mono (by omega), ⟨fun x hx => ?_, f3.inc, by rw [f3.len]; omega⟩, by rw [f3.len]; omega⟩
  obtain ⟨l, e, h1, _⟩ := f3.st x hx
  exact ⟨l, e, h1⟩

theorem dr_long {n : Int} (h0 : 0 ≤ n) (h1 : n ≤ 100) : ∃ s, t_spec_l02Long n = some s ∧ StB s := by
  obtain ⟨N, rfl⟩ := Int.eq_ofNat_of_zero_le h0
  obtain ⟨r, f1, f2, f3⟩ := loopT_ex (step := s0_spec_l02Long N) (fun i (t : (Sl Point) × Int) => (t.1.getD []).length = i ∧ (∀ p ∈ t.1.getD [], PtB p) ∧ t.2 = (i : Int)) N (fun r => (r.getD []).length = N ∧ ∀ p ∈ r.getD [], PtB p)
    (fun i ⟨v1, v2⟩ hi ⟨g1, g2, g3⟩ => by
      simp only at g1 g2 g3
      subst g3
      have c : (i : Int) < (N : Int) := by omega
      have dv : 0 ≤ Int.tdiv (i : Int) 2 ∧ Int.tdiv (i : Int) 2 ≤ i := by rw [Int.tdiv_eq_ediv_of_nonneg (by omega)]; omega
      have w1 : wr (10 + (i : Int)) = 10 + i := wr_id (by omega) (by omega)
      have w2 : wr (Int.tdiv (i : Int) 2) = Int.tdiv (i : Int) 2 := wr_id (by omega) (by omega)
      have w3 : wr (50 - Int.tdiv (i : Int) 2) = 50 - Int.tdiv (i : Int) 2 := wr_id (by omega) (by omega)
      have w4 : wr (3 * (i : Int)) = 3 * i := wr_id (by omega) (by omega)
      have a0 := appO_one v1 (⟨10 + (i : Int), 50 - Int.tdiv (i : Int) 2, 3 * (i : Int)⟩ : Point) (by omega)
      have a0' : appS v1 [(⟨10 + (i : Int), 50 - Int.tdiv (i : Int) 2, 3 * (i : Int)⟩ : Point)] = some (v1.getD [] ++ [⟨10 + (i : Int), 50 - Int.tdiv (i : Int) 2, 3 * (i : Int)⟩]) := appS_cons _ _ _
      refine .inl ⟨(some (v1.getD [] ++ [⟨10 + (i : Int), 50 - Int.tdiv (i : Int) 2, 3 * (i : Int)⟩]), ((i + 1 : Nat) : Int)), ?_, by simp [g1], fun p hp => ?_, rfl⟩
      · unfold s0_spec_l02Long
        simp only [c, decide_true, cond_true, w1, w2, w3, w4, a0, a0', obind_sm, wr_succ hi (by omega)]
      · rcases List.mem_append.1 hp with hp | hp
        · exact g2 p hp
        · simp only [List.mem_singleton] at hp
          subst hp
          exact ⟨by simp only; omega, by simp only; omega, by simp only; omega, by simp only; omega, by simp only; omega, by simp only; omega⟩)
    (fun ⟨v1, v2⟩ ⟨g1, g2, g3⟩ => by
      simp only at g1 g2 g3
      subst g3
      refine ⟨v1, ?_, g1, g2⟩
      unfold s0_spec_l02Long
      simp only [Int.lt_irrefl, decide_false, cond_false])
    (s := (none, 0)) ⟨rfl, fun p hp => (by cases hp), rfl⟩
  refine ⟨⟨r⟩, ?_, by simp only; omega, f3⟩
  unfold t_spec_l02Long
  simp only [f1, obind_sm]

theorem InkV.b {L : List Stroke} (h : InkV L) : ∀ x ∈ L, StB x := fun x hx => by
  obtain ⟨l, rfl, hl⟩ := h.st x hx
  exact hl.b

theorem set_st {L : List Stroke} {k : Int} {l : List Point} {q : Point} (h : ∀ x ∈ L, StB x) (hl : StB ⟨some l⟩) (hq : PtB q) : ∀ x ∈ (setS (some L) k (⟨setS (some l) 0 q⟩ : Stroke)).getD [], StB x := by
  intro x hx
  simp only [setS, Option.map_some, Option.getD_some] at hx
  rcases List.mem_or_eq_of_mem_set hx with hx | rfl
  · exact h x hx
  · refine ⟨by simpa using hl.n, fun p hp => ?_⟩
    simp only [Option.getD_some] at hp
    rcases List.mem_or_eq_of_mem_set hp with hp | rfl
    · exact hl.pts p (by simpa using hp)
    · exact hq

theorem dr_bent {s : l00Src} {k : Int} (h : SK s k) (hk : k ≤ 10000000) : ∃ L s', t_spec_l02Bent s = some (⟨L⟩, s') ∧ SK s' (k + 30000) ∧ (L.getD []).length ≤ 100 ∧ ∀ x ∈ L.getD [], StB x := by
  obtain ⟨L, s1, e1, k1, iv, il⟩ := dr_ink h (by omega) (most := 5) (by omega) (by omega)
  obtain ⟨r2, s2, e2, k2, p2, q2, _⟩ := dr_pick k1 (by omega) (n := 20) (by omega)
  have q2' := q2 (by omega)
  have ib := iv.b
  have first : 0 < (((L.getD []).length : Nat) : Int) → ∀ r : Int, 0 ≤ r → r < (((L.getD []).length : Nat) : Int) → ∃ L' l p, L = some L' ∧ getI (L.getD []) r = some ⟨some l⟩ ∧ getI l 0 = some p ∧ StV l := fun h0 r hr0 hr1 => by
    obtain ⟨x, hx, hx2⟩ := getI_in hr0 hr1
    obtain ⟨l, rfl, hl⟩ := iv.st x (List.mem_of_getElem? hx2)
    obtain ⟨p, hp, _⟩ := getI_in (l := l) (i := 0) (by omega) (by have := hl.n1; omega)
    cases L with
    | none => simp at h0
    | some L' => exact ⟨L', l, p, rfl, hx, hp, hl⟩
  unfold t_spec_l02Bent
  simp only [e1, e2, obind_sm]
  by_cases c0 : r2 = 0
  · have d0 : decide (r2 = 0) = true := decide_eq_true c0
    have a0 := appO_one L (⟨none⟩ : Stroke) (by omega)
    have a0' : appS L [(⟨none⟩ : Stroke)] = some (L.getD [] ++ [⟨none⟩]) := appS_cons _ _ _
    simp only [d0, cond_true, a0, a0', obind_sm]
    refine ⟨_, _, rfl, k2.mono (by omega), by simp; omega, fun x hx => ?_⟩
    rcases List.mem_append.1 hx with hx | hx
    · exact ib x hx
    · simp only [List.mem_singleton] at hx
      subst hx
      exact ⟨by simp, fun p hp => by cases hp⟩
  have d0 : decide (r2 = 0) = false := decide_eq_false c0
  by_cases c1 : r2 = 1
  · have d1 : decide (r2 = 1) = true := decide_eq_true c1
    by_cases n0 : 0 < (((L.getD []).length : Nat) : Int)
    · obtain ⟨r3, s3, e3, k3, p3, q3, _⟩ := dr_pick k2 (by omega) (n := (((L.getD []).length : Nat) : Int)) (by omega)
      have q3' := q3 (by omega)
      obtain ⟨L', l, p, rfl, g1, g2, hl⟩ := first n0 r3 p3 q3'
      simp only [Option.getD_some] at n0 e3 g1 ib
      obtain ⟨r4, s4, e4, k4, m4⟩ := dr_among k3 (by omega) (l := [-1, 4095, 4096]) (by simp) (by simp)
      simp only [d0, d1, decide_true, decide_false, cond_true, cond_false, n0, e3, obind_sm, g1, Option.getD_some, g2, e4]
      have pb := (hl.pts p (List.mem_of_getElem? (getI_iff.1 g2).2)).b
      refine ⟨_, _, rfl, k4.mono (by omega), by simp only [setS, Option.map_some, Option.getD_some, List.length_set] at il ⊢; omega, set_st ib hl.b ⟨?_, ?_, pb.y0, pb.y1, pb.t0, pb.t1⟩⟩
      all_goals
        simp only [List.mem_cons, List.not_mem_nil, or_false] at m4
        simp only
        omega
    · simp only [d0, d1, decide_true, decide_false, cond_true, cond_false, n0]
      exact ⟨_, _, rfl, k2.mono (by omega), by omega, ib⟩
  have d1 : decide (r2 = 1) = false := decide_eq_false c1
  by_cases c2 : r2 = 2
  · have d2 : decide (r2 = 2) = true := decide_eq_true c2
    by_cases n0 : 0 < (((L.getD []).length : Nat) : Int)
    · obtain ⟨r3, s3, e3, k3, p3, q3, _⟩ := dr_pick k2 (by omega) (n := (((L.getD []).length : Nat) : Int)) (by omega)
      have q3' := q3 (by omega)
      obtain ⟨L', l, p, rfl, g1, g2, hl⟩ := first n0 r3 p3 q3'
      simp only [Option.getD_some] at n0 e3 g1 ib
      obtain ⟨r4, s4, e4, k4, m4⟩ := dr_among k3 (by omega) (l := [-1, 0, 3600000, 3600001]) (by simp) (by simp)
      simp only [d0, d1, d2, decide_true, decide_false, cond_true, cond_false, n0, e3, obind_sm, g1, Option.getD_some, g2, e4]
      have pb := (hl.pts p (List.mem_of_getElem? (getI_iff.1 g2).2)).b
      refine ⟨_, _, rfl, k4.mono (by omega), by simp only [setS, Option.map_some, Option.getD_some, List.length_set] at il ⊢; omega, set_st ib hl.b ⟨pb.x0, pb.x1, pb.y0, pb.y1, ?_, ?_⟩⟩
      all_goals
        simp only [List.mem_cons, List.not_mem_nil, or_false] at m4
        simp only
        omega
    · simp only [d0, d1, d2, decide_true, decide_false, cond_true, cond_false, n0]
      exact ⟨_, _, rfl, k2.mono (by omega), by omega, ib⟩
  have d2 : decide (r2 = 2) = false := decide_eq_false c2
  by_cases c3 : r2 = 3
  · have d3 : decide (r2 = 3) = true := decide_eq_true c3
    obtain ⟨r3, s3, e3, k3, p3, q3, _⟩ := dr_pick k2 (by omega) (n := 2) (by omega)
    have q3' := q3 (by omega)
    have w : wr (60 + r3) = 60 + r3 := wr_id (by omega) (by omega)
    obtain ⟨x, e4, hx⟩ := dr_long (n := 60 + r3) (by omega) (by omega)
    simp only [d0, d1, d2, d3, decide_true, decide_false, cond_true, cond_false, e3, w, e4, obind_sm]
    refine ⟨_, _, rfl, k3.mono (by omega), by simp, fun y hy => ?_⟩
    simp only [Option.getD_some, List.mem_singleton] at hy
    subst hy
    exact hx
  have d3 : decide (r2 = 3) = false := decide_eq_false c3
  by_cases c4 : r2 = 4
  · have d4 : decide (r2 = 4) = true := decide_eq_true c4
    obtain ⟨r3, s3, e3, k3, p3, q3, _⟩ := dr_pick k2 (by omega) (n := 2) (by omega)
    have q3' := q3 (by omega)
    have w : wr (16 + r3) = 16 + r3 := wr_id (by omega) (by omega)
    obtain ⟨N, hN⟩ := Int.eq_ofNat_of_zero_le (a := 16 + r3) (by omega)
    obtain ⟨r, f1, f2, f3⟩ := loopT_ex (step := s0_spec_l02Bent (r3, s3)) (fun i (t : (Sl Stroke) × Int) => (t.1.getD []).length = i ∧ (∀ p ∈ t.1.getD [], StB p) ∧ t.2 = (i : Int)) N (fun r => (r.getD []).length = N ∧ ∀ p ∈ r.getD [], StB p)
      (fun i ⟨v1, v2⟩ hi ⟨g1, g2, g3⟩ => by
        simp only at g1 g2 g3
        subst g3
        have c : (i : Int) < 16 + r3 := by omega
        have a0 := appO_one v1 (⟨some [⟨(i : Int), 5, (i : Int)⟩]⟩ : Stroke) (by omega)
        have a0' : appS v1 [(⟨some [⟨(i : Int), 5, (i : Int)⟩]⟩ : Stroke)] = some (v1.getD [] ++ [⟨some [⟨(i : Int), 5, (i : Int)⟩]⟩]) := appS_cons _ _ _
        refine .inl ⟨(some (v1.getD [] ++ [⟨some [⟨(i : Int), 5, (i : Int)⟩]⟩]), ((i + 1 : Nat) : Int)), ?_, by simp [g1], fun p hp => ?_, rfl⟩
        · unfold s0_spec_l02Bent
          simp only [w, c, decide_true, cond_true, a0, a0', obind_sm, wr_succ hi (by omega)]
        · rcases List.mem_append.1 hp with hp | hp
          · exact g2 p hp
          · simp only [List.mem_singleton] at hp
            subst hp
            refine ⟨by simp, fun q hq => ?_⟩
            simp only [Option.getD_some, List.mem_singleton] at hq
            subst hq
            exact ⟨by simp only; omega, by simp only; omega, by simp only; omega, by simp only; omega, by simp only; omega, by simp only; omega⟩)
      (fun ⟨v1, v2⟩ ⟨g1, g2, g3⟩ => by
        simp only at g1 g2 g3
        subst g3
        have c : ¬ (N : Int) < 16 + r3 := by omega
        refine ⟨v1, ?_, g1, g2⟩
        unfold s0_spec_l02Bent
        simp only [w, c, decide_false, cond_false])
      (s := (none, 0)) ⟨rfl, fun p hp => (by cases hp), rfl⟩
    simp only [d0, d1, d2, d3, d4, decide_true, decide_false, cond_true, cond_false, e3, f1, obind_sm]
    exact ⟨_, _, rfl, k3.mono (by omega), by omega, f3⟩
  · have d4 : decide (r2 = 4) = false := decide_eq_false c4
    simp only [d0, d1, d2, d3, d4, cond_false]
    exact ⟨_, _, rfl, k2.mono (by omega), by omega, ib⟩

theorem dr_l05 {s : l00Src} {k : Int} (h : SK s k) (hk : k ≤ 1000000) : ∃ st s', t_spec_l05Stroke s = some (st, s') ∧ SK s' (k + 40000) ∧ StB st := by
  obtain ⟨b1, s1, e1, k1⟩ := dr_one h (by omega) (n := 12) (by omega)
  unfold t_spec_l05Stroke
  simp only [e1, obind_sm]
  cases b1 with
  | true =>
    obtain ⟨L, s2, e2, k2, ll, lb⟩ := dr_bent k1 (by omega)
    simp only [cond_true, e2, obind_sm]
    by_cases n0 : 0 < (((L.getD []).length : Nat) : Int)
    · obtain ⟨x, g1, g2⟩ := getI_in (l := L.getD []) (i := 0) (by omega) (by omega)
      simp only [n0, decide_true, cond_true, g1, obind_sm]
      exact ⟨_, _, rfl, k2.mono (by omega), lb _ (List.mem_of_getElem? g2)⟩
    · simp only [n0, decide_false, cond_false]
      exact ⟨_, _, rfl, k2.mono (by omega), by simp, fun p hp => by cases hp⟩
  | false =>
    obtain ⟨b2, s2, e2, k2⟩ := dr_one k1 (by omega) (n := 2) (by omega)
    simp only [cond_false, e2, obind_sm]
    cases b2 with
    | true =>
      obtain ⟨r3, s3, e3, k3, p3, q3, _⟩ := dr_pick k2 (by omega) (n := 60) (by omega)
      obtain ⟨r4, s4, e4, k4, p4, q4, _⟩ := dr_pick k3 (by omega) (n := 60) (by omega)
      have q3' := q3 (by omega)
      have q4' := q4 (by omega)
      have w1 : wr (300 + r3) = 300 + r3 := wr_id (by omega) (by omega)
      have w2 : wr (300 + r4) = 300 + r4 := wr_id (by omega) (by omega)
      obtain ⟨l, s5, e5, k5, sv, _, _⟩ := dr_stroke k4 (by omega) (time := 5) (x := 300 + r3) (y := 300 + r4) (by omega) (by omega) (by omega) (by omega)
      simp only [cond_true, e3, e4, w1, w2, e5, obind_sm]
      exact ⟨_, _, rfl, k5.mono (by omega), sv.b⟩
    | false =>
      obtain ⟨r3, s3, e3, k3, p3, q3, _⟩ := dr_pick k2 (by omega) (n := 7) (by omega)
      have q3' := q3 (by omega)
      have w1 : wr (1 + r3) = 1 + r3 := wr_id (by omega) (by omega)
      obtain ⟨N, hN⟩ := Int.eq_ofNat_of_zero_le (a := 1 + r3) (by omega)
      obtain ⟨⟨c1, c2, c3, c4⟩, f1, f2, f3, f4⟩ := loopT_ex (step := s0_spec_l05Stroke) (fun i (t : (Sl UInt8) × Int × Int × (Sl Point) × Int) => SK ⟨t.1, t.2.1, t.2.2.1⟩ (k + 6 + 4 * i) ∧ (t.2.2.2.1.getD []).length = i ∧ (∀ p ∈ t.2.2.2.1.getD [], PtB p) ∧ t.2.2.2.2 = N - (i : Int))
        N (fun r => SK ⟨r.1, r.2.1, r.2.2.1⟩ (k + 6 + 4 * N) ∧ (r.2.2.2.getD []).length = N ∧ ∀ p ∈ r.2.2.2.getD [], PtB p)
        (fun i ⟨v1, v2, v3, v4, v5⟩ hi ⟨g1, g2, g3, g4⟩ => by
          simp only at g1 g2 g3 g4
          obtain ⟨r4, s4, e4, k4, p4, q4, _⟩ := dr_pick g1 (by omega) (n := 9) (by omega)
          obtain ⟨r5, s5, e5, k5, p5, q5, _⟩ := dr_pick k4 (by omega) (n := 9) (by omega)
          have q4' := q4 (by omega)
          have q5' := q5 (by omega)
          have a0 := appO_one v4 (⟨r4, r5, (((v4.getD []).length : Nat) : Int)⟩ : Point) (by omega)
          have a0' : appS v4 [(⟨r4, r5, (((v4.getD []).length : Nat) : Int)⟩ : Point)] = some (v4.getD [] ++ [⟨r4, r5, (((v4.getD []).length : Nat) : Int)⟩]) := appS_cons _ _ _
          have a5 : wr (v5 - 1) = v5 - 1 := wr_id (by omega) (by omega)
          have c : 0 < v5 := by omega
          have e : s0_spec_l05Stroke (v1, v2, v3, v4, v5) = some (.inl (s5.code, s5.pos, s5.seed, some (v4.getD [] ++ [⟨r4, r5, (((v4.getD []).length : Nat) : Int)⟩]), v5 - 1)) := by
            unfold s0_spec_l05Stroke
            simp only [c, decide_true, cond_true, e4, e5, obind_sm, a0, a0', a5]
          refine .inl ⟨_, e, k5.mono (by omega), by simp [g2], fun p hp => ?_, by simp only; omega⟩
          rcases List.mem_append.1 hp with hp | hp
          · exact g3 p hp
          · simp only [List.mem_singleton] at hp
            subst hp
            exact ⟨by simp only; omega, by simp only; omega, by simp only; omega, by simp only; omega, by simp only; omega, by simp only; omega⟩)
        (fun ⟨v1, v2, v3, v4, v5⟩ ⟨g1, g2, g3, g4⟩ => by
          simp only at g1 g2 g3 g4
          have c : ¬ 0 < v5 := by omega
          have e : s0_spec_l05Stroke (v1, v2, v3, v4, v5) = some (.inr (v1, v2, v3, v4)) := by
            unfold s0_spec_l05Stroke
            simp only [c, decide_false, cond_false]
          exact ⟨_, e, g1, g2, g3⟩)
        (s := (s3.code, s3.pos, s3.seed, none, 1 + r3)) ⟨k3.mono (by omega), rfl, fun p hp => (by cases hp), by simp only; omega⟩
      simp only at f2 f3 f4
      simp only [cond_false, e3, w1, obind_sm]
      rw [f1]
      exact ⟨_, _, rfl, f2.mono (by omega), by simp only; omega, f4⟩

def vP (p : Point) : Bool := within p.x 0 4095 && within p.y 0 4095 && within p.t 0 3600000

def fV (l : List Point) (k : Nat) (a : Point) : Option Bool := bif (!vP a || (decide (0 < k) && decide (a.t ≤ (l.getD (k - 1) ⟨0, 0, 0⟩).t))) then some false else none

/-- The points are those of a stroke that is one. -/
def vS (l : List Point) : Bool := match firstL (fV l) l 0 with
  | none => decide (1 ≤ l.length) && decide (l.length ≤ 60)
  | some r => r

theorem validPoint_vP (p : Point) : t_impl_validPoint p = some (vP p) := by
  unfold t_impl_validPoint vP
  simp only [obind_sm]
  cases within p.x 0 4095 <;> cases within p.y 0 4095 <;> cases within p.t 0 3600000 <;> rfl

theorem l02Point_vP (p : Point) : t_spec_l02Point p = some (vP p) := by
  unfold t_spec_l02Point vP
  simp only [obind_sm]
  cases within p.x 0 4095 <;> cases within p.y 0 4095 <;> cases within p.t 0 3600000 <;> rfl

theorem vP_iff {p : Point} : vP p = true ↔ PtV p := by
  unfold vP within
  simp only [Bool.and_eq_true, decide_eq_true_eq]
  constructor
  · rintro ⟨⟨⟨h1, h2⟩, h3, h4⟩, h5, h6⟩
    exact ⟨h1, h2, h3, h4, h5, h6⟩
  · rintro ⟨h1, h2, h3, h4, h5, h6⟩
    exact ⟨⟨⟨h1, h2⟩, h3, h4⟩, h5, h6⟩

theorem prev_get {A : Type} {l : List A} {k : Nat} {d : A} (hk : k < l.length) (h0 : 0 < k) (hl : l.length ≤ 4294967296) : getI l (wr ((k : Int) - 1)) = some (l.getD (k - 1) d) := by
  have w : wr ((k : Int) - 1) = ((k - 1 : Nat) : Int) := by rw [wr_id (by omega) (by omega)]; omega
  rw [w]
  apply getI_nat
  rw [List.getD_eq_getElem?_getD, List.getElem?_eq_getElem (by omega)]
  rfl

theorem validStroke_vS (s : Stroke) (hl : (s.points.getD []).length ≤ 4294967296) : t_impl_ValidStroke s = some (vS (s.points.getD [])) := by
  obtain ⟨l, hL⟩ : ∃ l, s.points.getD [] = l := ⟨_, rfl⟩
  rw [hL] at hl ⊢
  have lp := loopT_first (step := s0_impl_ValidStroke s) l (fV l) (.inl ()) .inr
    (fun k a ha => by
      have hk := get_lt ha
      have c : (k : Int) < (l.length : Nat) := by omega
      have ws := wr_succ hk hl
      unfold s0_impl_ValidStroke fV
      simp only [hL, c, decide_true, cond_true, getI_nat ha, obind_sm, validPoint_vP, ws]
      by_cases k0 : k = 0
      · have D1 : decide ((0 : Int) < (k : Int)) = false := decide_eq_false (by omega)
        have D2 : decide (0 < k) = false := decide_eq_false (by omega)
        rw [D1, D2]
        cases vP a <;> rfl
      · have D1 : decide ((0 : Int) < (k : Int)) = true := decide_eq_true (by omega)
        have D2 : decide (0 < k) = true := decide_eq_true (by omega)
        rw [D1, D2, prev_get (d := ⟨0, 0, 0⟩) hk (by omega) hl]
        simp only [obind_sm]
        cases vP a <;> cases decide (a.t ≤ (l.getD (k - 1) ⟨0, 0, 0⟩).t) <;> rfl)
    (by
      unfold s0_impl_ValidStroke
      simp only [hL, Int.lt_irrefl, decide_false, cond_false])
  have d1 : decide ((1 : Int) ≤ ((l.length : Nat) : Int)) = decide (1 ≤ l.length) := decide_eq_decide.2 (by omega)
  have d2 : decide (((l.length : Nat) : Int) ≤ 60) = decide (l.length ≤ 60) := decide_eq_decide.2 (by omega)
  unfold t_impl_ValidStroke vS
  rw [lp]
  cases firstL (fV l) l 0 with
  | none =>
    simp only [obind_sm, hL, d1, d2]
    cases decide (1 ≤ l.length) <;> cases decide (l.length ≤ 60) <;> rfl
  | some r => rfl

theorem l02Stroke_vS (s : Stroke) (hl : (s.points.getD []).length ≤ 4294967296) : t_spec_l02Stroke s = some (vS (s.points.getD [])) := by
  obtain ⟨l, hL⟩ : ∃ l, s.points.getD [] = l := ⟨_, rfl⟩
  rw [hL] at hl ⊢
  have lp := loopT_first (step := s0_spec_l02Stroke s) l (fV l) (.inl ()) .inr
    (fun k a ha => by
      have hk := get_lt ha
      have c : (k : Int) < (l.length : Nat) := by omega
      have ws := wr_succ hk hl
      unfold s0_spec_l02Stroke fV
      simp only [hL, c, decide_true, cond_true, getI_nat ha, obind_sm, l02Point_vP, ws]
      by_cases k0 : k = 0
      · have D1 : decide ((0 : Int) < (k : Int)) = false := decide_eq_false (by omega)
        have D2 : decide (0 < k) = false := decide_eq_false (by omega)
        rw [D1, D2]
        cases vP a <;> rfl
      · have D1 : decide ((0 : Int) < (k : Int)) = true := decide_eq_true (by omega)
        have D2 : decide (0 < k) = true := decide_eq_true (by omega)
        rw [D1, D2, prev_get (d := ⟨0, 0, 0⟩) hk (by omega) hl]
        simp only [obind_sm]
        cases vP a <;> cases decide (a.t ≤ (l.getD (k - 1) ⟨0, 0, 0⟩).t) <;> rfl)
    (by
      unfold s0_spec_l02Stroke
      simp only [hL, Int.lt_irrefl, decide_false, cond_false])
  have d1 : within ((l.length : Nat) : Int) 1 60 = (decide (1 ≤ l.length) && decide (l.length ≤ 60)) := by
    unfold within
    congr 1 <;> exact decide_eq_decide.2 (by omega)
  unfold t_spec_l02Stroke vS
  rw [lp]
  cases firstL (fV l) l 0 with
  | none =>
    simp only [obind_sm, hL, d1]
  | some r => rfl

theorem firstL_no {A R : Type} {f : Nat → A → Option R} : ∀ {l : List A} {k : Nat}, firstL f l k = none → ∀ i a, l[i]? = some a → f (k + i) a = none
  | [], _, _, i, a, ha => by simp at ha
  | b :: l, k, h, i, a, ha => by
    unfold firstL at h
    cases e : f k b with
    | some r => rw [e] at h; cases h
    | none =>
      rw [e] at h
      cases i with
      | zero =>
        simp only [List.getElem?_cons_zero, Option.some.injEq] at ha
        subst ha
        exact e
      | succ i =>
        have := firstL_no h i a (by simpa using ha)
        rw [← this]
        congr 1
        omega

theorem firstL_so {A R : Type} {f : Nat → A → Option R} : ∀ {l : List A} {k : Nat} {r : R}, firstL f l k = some r → ∃ i a, f i a = some r
  | [], _, _, h => by cases h
  | b :: l, k, r, h => by
    unfold firstL at h
    cases e : f k b with
    | some r' => rw [e] at h; cases h; exact ⟨k, b, e⟩
    | none => rw [e] at h; exact firstL_so h

theorem vS_iff {l : List Point} : vS l = true ↔ StV l := by
  unfold vS
  constructor
  · intro h
    cases e : firstL (fV l) l 0 with
    | some r =>
      rw [e] at h
      simp only at h
      subst h
      obtain ⟨i, a, hf⟩ := firstL_so e
      unfold fV at hf
      cases h2 : (!vP a || (decide (0 < i) && decide (a.t ≤ (l.getD (i - 1) ⟨0, 0, 0⟩).t))) <;> rw [h2] at hf <;> cases hf
    | none =>
      rw [e] at h
      simp only [Bool.and_eq_true, decide_eq_true_eq] at h
      have no := firstL_no e
      have no' : ∀ i a, l[i]? = some a → vP a = true ∧ (0 < i → (l.getD (i - 1) ⟨0, 0, 0⟩).t < a.t) := fun i a ha => by
        have h1 := no i a ha
        rw [Nat.zero_add] at h1
        unfold fV at h1
        cases h2 : (!vP a || (decide (0 < i) && decide (a.t ≤ (l.getD (i - 1) ⟨0, 0, 0⟩).t))) with
        | true => rw [h2] at h1; cases h1
        | false =>
          simp only [Bool.or_eq_false_iff, Bool.not_eq_false', Bool.and_eq_false_iff, decide_eq_false_iff_not] at h2
          exact ⟨h2.1, fun h3 => by rcases h2.2 with h4 | h4 <;> omega⟩
      refine ⟨fun p hp => ?_, fun k p q h1 h2 => ?_, h.1, h.2⟩
      · obtain ⟨i, hi⟩ := List.mem_iff_getElem?.1 hp
        exact vP_iff.1 (no' i p hi).1
      · have h3 := (no' (k + 1) q h2).2 (by omega)
        rw [Nat.add_sub_cancel, List.getD_eq_getElem?_getD, h1] at h3
        exact h3
  · intro h
    have e : firstL (fV l) l 0 = none := firstL_none fun i a ha => by
      rw [Nat.zero_add]
      unfold fV
      have h1 := vP_iff.2 (h.pts a (List.mem_of_getElem? ha))
      have h2 : (decide (0 < i) && decide (a.t ≤ (l.getD (i - 1) ⟨0, 0, 0⟩).t)) = false := by
        by_cases c : 0 < i
        · obtain ⟨p, hp⟩ : ∃ p, l[i - 1]? = some p := ⟨l[i - 1]'(by have := get_lt ha; omega), List.getElem?_eq_getElem _⟩
          have h3 := h.inc (i - 1) p a hp (by rw [Nat.sub_add_cancel c]; exact ha)
          rw [List.getD_eq_getElem?_getD, hp]
          have : ¬ a.t ≤ p.t := by omega
          simp [this]
        · simp [c]
      rw [h1, h2]
      rfl
    rw [e]
    have h1 := h.n1
    have h2 := h.n2
    simp [h1, h2]

theorem StB.le {s : Stroke} (h : StB s) : (s.points.getD []).length ≤ 4294967296 := Nat.le_trans h.n (by omega)

def sumN (f : Nat → Int) : Nat → Int
  | 0 => 0
  | k + 1 => sumN f k + f k

def pt (l : List Point) (i : Nat) : Point := l.getD i ⟨0, 0, 0⟩

theorem get_pt {l : List Point} {i : Nat} (h : i < l.length) : getI l ((i : Nat) : Int) = some (pt l i) := by
  apply getI_nat
  unfold pt
  rw [List.getD_eq_getElem?_getD, List.getElem?_eq_getElem h]
  rfl

/-- One pair lies ahead of another. -/
def Pre (p q i j : Nat) : Prop := (i = p + 1 ∧ j = q + 1) ∨ (i = p + 1 ∧ j = q) ∨ (i = p ∧ j = q + 1)

/-- A path's cost, from the first pair on. -/
inductive Pth (C : Nat → Nat → Int) (R : Nat → Nat → Prop) : Nat → Nat → Int → Prop
  | start : R 0 0 → Pth C R 0 0 (C 0 0)
  | step {p q i j : Nat} {c : Int} : Pth C R p q c → Pre p q i j → R i j → Pth C R i j (c + C i j)

/-- The least cost of the paths to a pair, `B` where there is none. -/
def Opt (B : Int) (C : Nat → Nat → Int) (R : Nat → Nat → Prop) (i j : Nat) (v : Int) : Prop :=
  (v = B ∧ ∀ c, ¬ Pth C R i j c) ∨ (v < B ∧ Pth C R i j v ∧ ∀ c, Pth C R i j c → v ≤ c)

theorem Opt.le {B : Int} {C : Nat → Nat → Int} {R : Nat → Nat → Prop} {i j : Nat} {v : Int} (h : Opt B C R i j v) : v ≤ B := by
  rcases h with ⟨h, _⟩ | ⟨h, _⟩ <;> omega

theorem Pth.mono {C D : Nat → Nat → Int} {R S : Nat → Nat → Prop} {i j : Nat} {c : Int} (h : Pth C R i j c) (hR : ∀ p q, p ≤ i → q ≤ j → R p q → S p q) (hC : ∀ p q, p ≤ i → q ≤ j → C p q = D p q) : Pth D S i j c := by
  induction h with
  | start h =>
    rw [hC 0 0 (Nat.le_refl _) (Nat.le_refl _)]
    exact .start (hR 0 0 (Nat.le_refl _) (Nat.le_refl _) h)
  | @step p q i j c h1 h2 h3 ih =>
    have hle : p ≤ i ∧ q ≤ j := by rcases h2 with h | h | h <;> omega
    rw [hC i j (Nat.le_refl _) (Nat.le_refl _)]
    exact .step (ih (fun a b h4 h5 => hR a b (by omega) (by omega)) (fun a b h4 h5 => hC a b (by omega) (by omega))) h2 (hR i j (Nat.le_refl _) (Nat.le_refl _) h3)

def fAt (l : List Feat) (i : Nat) : Feat := l.getD i ⟨0, 0, 0⟩

def siz (x : Int) : Int := if x < 0 then -x else x

def fcost (a b : Feat) : Int := siz (a.x - b.x) + siz (a.y - b.y) + 16 * min (siz (a.d - b.d)) (8 - siz (a.d - b.d))

/-- A table's entry. -/
def Val (T : List (Sl Int)) (p q : Nat) (v : Int) : Prop := ∃ row, T[p]? = some (some row) ∧ row[q]? = some v

abbrev far : Int := 1099511627776

abbrev elC (a b : List Feat) : Nat → Nat → Int := fun i j => fcost (fAt a i) (fAt b j)

abbrev elR (band : Int) : Nat → Nat → Prop := fun i j => siz ((i : Int) - (j : Int)) ≤ band

/-- The table's rows ahead of `i`, and `j` entries of row `i`, are the least costs. -/
structure Tbl (a b : List Feat) (band : Int) (i j : Nat) (T : List (Sl Int)) : Prop where
  len : T.length = a.length
  val : ∀ p q, q < b.length → (p < i ∨ p = i ∧ q < j) → ∃ v, Val T p q v ∧ Opt far (elC a b) (elR band) p q v

theorem Val.set {T : List (Sl Int)} {i j p q : Nat} {row : List Int} {v w : Int} (hr : T[i]? = some (some row)) (hj : j < row.length) :
    Val (T.set i (some (row.set j w))) p q v ↔ (p = i ∧ q = j ∧ v = w) ∨ (¬ (p = i ∧ q = j) ∧ Val T p q v) := by
  have hi := get_lt hr
  unfold Val
  constructor
  · rintro ⟨r, h1, h2⟩
    by_cases c : i = p
    · subst c
      rw [List.getElem?_set_self hi] at h1
      cases h1
      by_cases d : j = q
      · subst d
        rw [List.getElem?_set_self hj] at h2
        cases h2
        exact .inl ⟨rfl, rfl, rfl⟩
      · rw [List.getElem?_set_ne d] at h2
        exact .inr ⟨fun h => d h.2.symm, row, hr, h2⟩
    · rw [List.getElem?_set_ne c] at h1
      exact .inr ⟨fun h => c h.1.symm, r, h1, h2⟩
  · rintro (⟨rfl, rfl, rfl⟩ | ⟨hne, r, h1, h2⟩)
    · exact ⟨_, List.getElem?_set_self hi, List.getElem?_set_self hj⟩
    · by_cases c : i = p
      · subst c
        rw [hr] at h1
        cases h1
        have d : j ≠ q := fun h => hne ⟨rfl, h.symm⟩
        exact ⟨_, List.getElem?_set_self hi, by rw [List.getElem?_set_ne d]; exact h2⟩
      · exact ⟨r, by rw [List.getElem?_set_ne c]; exact h1, h2⟩

theorem Tbl.step {a b : List Feat} {band : Int} {i j : Nat} {T : List (Sl Int)} {row : List Int} {v : Int} (h : Tbl a b band i j T) (hr : T[i]? = some (some row)) (hj : j < row.length) (ho : Opt far (elC a b) (elR band) i j v) : Tbl a b band i (j + 1) (T.set i (some (row.set j v))) := by
  refine ⟨by simp [h.len], fun p q hq hpq => ?_⟩
  by_cases e : p = i ∧ q = j
  · obtain ⟨rfl, rfl⟩ := e
    exact ⟨v, (Val.set hr hj).2 (.inl ⟨rfl, rfl, rfl⟩), ho⟩
  · obtain ⟨w, h1, h2⟩ := h.val p q hq (by omega)
    exact ⟨w, (Val.set hr hj).2 (.inr ⟨e, h1⟩), h2⟩

/-- A path through rows from the first one on, from any column `f`. -/
def PF (C : Nat → Nat → Int) (f i j : Nat) (c : Int) : Prop := f ≤ j ∧ Pth (fun p q => C p (q + f)) (fun _ _ => True) i (j - f) c

theorem PF.start {C : Nat → Nat → Int} (j : Nat) : PF C j 0 j (C 0 j) := by
  refine ⟨Nat.le_refl _, ?_⟩
  have h := Pth.start (C := fun p q => C p (q + j)) (R := fun _ _ => True) trivial
  simp only [Nat.zero_add] at h
  rw [Nat.sub_self]
  exact h

theorem PF.step {C : Nat → Nat → Int} {f p q i j : Nat} {c : Int} (h : PF C f p q c) (hp : Pre p q i j) : PF C f i j (c + C i j) := by
  obtain ⟨h1, h2⟩ := h
  have hj : q ≤ j := by unfold Pre at hp; omega
  refine ⟨by omega, ?_⟩
  have h3 : Pth (fun p q => C p (q + f)) (fun _ _ => True) i (j - f) (c + C i (j - f + f)) := Pth.step (i := i) (j := j - f) h2 (by unfold Pre at *; omega) trivial
  rw [Nat.sub_add_cancel (by omega)] at h3
  exact h3

/-- The least of the paths to a pair, and where it begins. -/
def PO (C : Nat → Nat → Int) (i j : Nat) (x : Part) : Prop := ∃ f : Nat, x.frm = (f : Int) ∧ PF C f i j x.cost ∧ ∀ g c, PF C g i j c → x.cost ≤ c

def PVal (T : List (Sl Part)) (p q : Nat) (v : Part) : Prop := ∃ row, T[p]? = some (some row) ∧ row[q]? = some v

theorem PVal.set {T : List (Sl Part)} {i j p q : Nat} {row : List Part} {v w : Part} (hr : T[i]? = some (some row)) (hj : j < row.length) :
    PVal (T.set i (some (row.set j w))) p q v ↔ (p = i ∧ q = j ∧ v = w) ∨ (¬ (p = i ∧ q = j) ∧ PVal T p q v) := by
  have hi := get_lt hr
  unfold PVal
  constructor
  · rintro ⟨r, h1, h2⟩
    by_cases c : i = p
    · subst c
      rw [List.getElem?_set_self hi] at h1
      cases h1
      by_cases d : j = q
      · subst d
        rw [List.getElem?_set_self hj] at h2
        cases h2
        exact .inl ⟨rfl, rfl, rfl⟩
      · rw [List.getElem?_set_ne d] at h2
        exact .inr ⟨fun h => d h.2.symm, row, hr, h2⟩
    · rw [List.getElem?_set_ne c] at h1
      exact .inr ⟨fun h => c h.1.symm, r, h1, h2⟩
  · rintro (⟨rfl, rfl, rfl⟩ | ⟨hne, r, h1, h2⟩)
    · exact ⟨_, List.getElem?_set_self hi, List.getElem?_set_self hj⟩
    · by_cases c : i = p
      · subst c
        rw [hr] at h1
        cases h1
        have d : j ≠ q := fun h => hne ⟨rfl, h.symm⟩
        exact ⟨_, List.getElem?_set_self hi, by rw [List.getElem?_set_ne d]; exact h2⟩
      · exact ⟨r, by rw [List.getElem?_set_ne c]; exact h1, h2⟩

/-- The entries ahead of a place are the least parts. -/
structure PTbl (a b : List Feat) (i j : Nat) (T : List (Sl Part)) : Prop where
  len : T.length = a.length
  rows : ∀ (k : Nat) (row : List Part), T[k]? = some (some row) → row.length = b.length
  val : ∀ p q, q < b.length → (p < i ∨ p = i ∧ q < j) → ∃ v, PVal T p q v ∧ PO (elC a b) p q v

theorem rows_set {m : Nat} {T : List (Sl Part)} {i : Nat} {r : List Part} (h : ∀ (k : Nat) (row : List Part), T[k]? = some (some row) → row.length = m) (hr : r.length = m) : ∀ (k : Nat) (row : List Part), (T.set i (some r))[k]? = some (some row) → row.length = m := by
  intro k row hk
  by_cases c : i = k
  · subst c
    have hlt := get_lt hk
    rw [List.length_set] at hlt
    rw [List.getElem?_set_self hlt] at hk
    cases hk
    exact hr
  · rw [List.getElem?_set_ne c] at hk
    exact h k row hk

theorem PTbl.step {a b : List Feat} {i j : Nat} {T : List (Sl Part)} {row : List Part} {v : Part} (h : PTbl a b i j T) (hr : T[i]? = some (some row)) (hj : j < b.length) (ho : PO (elC a b) i j v) : PTbl a b i (j + 1) (T.set i (some (row.set j v))) := by
  have hl := h.rows _ _ hr
  refine ⟨by rw [List.length_set, h.len], rows_set h.rows (by rw [List.length_set, hl]), fun p q hq hpq => ?_⟩
  by_cases e : p = i ∧ q = j
  · obtain ⟨rfl, rfl⟩ := e
    exact ⟨v, (PVal.set hr (by omega)).2 (.inl ⟨rfl, rfl, rfl⟩), ho⟩
  · obtain ⟨w, h1, h2⟩ := h.val p q hq (by omega)
    exact ⟨w, (PVal.set hr (by omega)).2 (.inr ⟨e, h1⟩), h2⟩

theorem sq_nn (a : Int) : 0 ≤ a * a := by
  rcases Int.le_total 0 a with h | h
  · exact Int.mul_nonneg h h
  · have := Int.mul_nonneg (show 0 ≤ -a by omega) (show 0 ≤ -a by omega)
    rwa [Int.neg_mul_neg] at this

theorem pt_v {l : List Point} (h : StV l) {i : Nat} (hi : i < l.length) : PtV (pt l i) := by
  have g := get_pt hi
  exact h.pts _ (List.mem_of_getElem? (getI_iff.1 g).2)

theorem f6ints_ok {a b : Sl Int} (h : a.getD [] = b.getD []) (hl : (a.getD []).length ≤ 4294967296) : t_laws_f6ints a b = some true := by
  have lp := loopT_first (step := s0_laws_f6ints a b) (a.getD []) (fun _ _ => (none : Option Bool)) (.inl ()) .inr
    (fun k x hx => by
      have hk := get_lt hx
      have c : (k : Int) < ((a.getD []).length : Nat) := by omega
      unfold s0_laws_f6ints
      simp only [c, decide_true, cond_true, getI_nat hx, ← h, obind_sm, Bool.not_true, cond_false, wr_succ hk hl])
    (by
      unfold s0_laws_f6ints
      simp only [Int.lt_irrefl, decide_false, cond_false])
  rw [firstL_none (fun _ _ _ => rfl)] at lp
  unfold t_laws_f6ints
  rw [lp, ← h]
  simp

def d2 (a b : Point) : Int := (a.x - b.x) * (a.x - b.x) + (a.y - b.y) * (a.y - b.y)

theorem sq_le {x : Int} (h1 : -4095 ≤ x) (h2 : x ≤ 4095) : 0 ≤ x * x ∧ x * x ≤ 16769025 := by
  refine ⟨sq_nn x, ?_⟩
  have e : ((x * x).natAbs : Int) ≤ 16769025 := by
    rw [Int.natAbs_mul]
    have := Nat.mul_le_mul (show x.natAbs ≤ 4095 by omega) (show x.natAbs ≤ 4095 by omega)
    omega
  omega

theorem d2_ok {a b : Point} (ha : PtV a) (hb : PtV b) : 0 ≤ d2 a b ∧ d2 a b ≤ 33538050 ∧ wr (wr (wr (a.x - b.x) * wr (a.x - b.x)) + wr (wr (a.y - b.y) * wr (a.y - b.y))) = d2 a b := by
  obtain ⟨a1, a2, a3, a4, _, _⟩ := ha
  obtain ⟨b1, b2, b3, b4, _, _⟩ := hb
  have h1 := sq_le (x := a.x - b.x) (by omega) (by omega)
  have h2 := sq_le (x := a.y - b.y) (by omega) (by omega)
  unfold d2
  have w1 : wr (a.x - b.x) = a.x - b.x := wr_id (by omega) (by omega)
  have w2 : wr (a.y - b.y) = a.y - b.y := wr_id (by omega) (by omega)
  rw [w1, w2, wr_id (n := (a.x - b.x) * (a.x - b.x)) (by omega) (by omega), wr_id (n := (a.y - b.y) * (a.y - b.y)) (by omega) (by omega), wr_id (by omega) (by omega)]
  exact ⟨by omega, by omega, rfl⟩

theorem squared_ok {a b : Point} (ha : PtV a) (hb : PtV b) : t_impl_squared a b = some (d2 a b) := by
  unfold t_impl_squared
  rw [(d2_ok ha hb).2.2]

theorem l05Far_ok {a b : Point} (ha : PtV a) (hb : PtV b) : t_spec_l05Far a b = some (d2 a b) := by
  unfold t_spec_l05Far
  rw [(d2_ok ha hb).2.2]

def lenP (a b : Point) : Int := ((isq (256 * d2 a b).toNat : Nat) : Int)

theorem rootO_ok {n : Int} (h0 : 0 ≤ n) (h1 : n ≤ 1000000000000000) : rootO n = some ((isq n.toNat : Nat) : Int) := by
  unfold rootO
  simp [h0, h1]

theorem isq_int {n : Int} (h0 : 0 ≤ n) : 0 ≤ ((isq n.toNat : Nat) : Int) ∧ ((isq n.toNat : Nat) : Int) * ((isq n.toNat : Nat) : Int) ≤ n ∧ n < (((isq n.toNat : Nat) : Int) + 1) * (((isq n.toNat : Nat) : Int) + 1) := by
  obtain ⟨m, rfl⟩ := Int.eq_ofNat_of_zero_le h0
  obtain ⟨h1, h2⟩ := isq_spec m
  rw [Int.toNat_natCast]
  refine ⟨by omega, by exact_mod_cast h1, by exact_mod_cast h2⟩

theorem le_of_sq {x y : Int} (hy : 0 ≤ y) (h : x * x ≤ y * y) : x ≤ y := by
  rcases Int.lt_or_le y x with c | c
  · have h1 : y * y ≤ y * x := Int.mul_le_mul_of_nonneg_left (by omega) hy
    have h2 : y * x < x * x := Int.mul_lt_mul_of_pos_right c (by omega)
    omega
  · exact c

theorem lenP_le {a b : Point} (ha : PtV a) (hb : PtV b) : 0 ≤ lenP a b ∧ lenP a b ≤ 100000 := by
  obtain ⟨h1, h2, _⟩ := d2_ok ha hb
  obtain ⟨h3, h4, _⟩ := isq_int (n := 256 * d2 a b) (by omega)
  refine ⟨h3, le_of_sq (by omega) ?_⟩
  show _ * _ ≤ _
  unfold lenP
  omega

theorem lengthOf_ok {a b : Point} (ha : PtV a) (hb : PtV b) : t_impl_lengthOf a b = some (lenP a b) ∧ t_spec_l05Length a b = some (lenP a b) := by
  obtain ⟨h1, h2, _⟩ := d2_ok ha hb
  have w : wr (256 * d2 a b) = 256 * d2 a b := wr_id (by omega) (by omega)
  have r := rootO_ok (n := 256 * d2 a b) (by omega) (by omega)
  unfold t_impl_lengthOf t_spec_l05Length t_impl_rootOf t_spec_l05Root
  simp only [squared_ok ha hb, l05Far_ok ha hb, obind_sm, w, r]
  exact ⟨rfl, rfl⟩

/-- The length of a stroke's first `k` segments. -/
def lenF (l : List Point) (i : Nat) : Int := lenP (pt l i) (pt l (i + 1))

def slen (l : List Point) : Int := sumN (lenF l) (l.length - 1)

theorem lenF_le {l : List Point} (h : StV l) {i : Nat} (hi : i + 1 < l.length) : 0 ≤ lenF l i ∧ lenF l i ≤ 100000 := lenP_le (pt_v h (by omega)) (pt_v h hi)

theorem lenS_le {l : List Point} (h : StV l) : ∀ {k : Nat}, k + 1 ≤ l.length → 0 ≤ sumN (lenF l) k ∧ sumN (lenF l) k ≤ 100000 * (k : Int)
  | 0, _ => by simp [sumN]
  | k + 1, hk => by
    have h1 := lenS_le h (k := k) (by omega)
    have h2 := lenF_le h (i := k) (by omega)
    show 0 ≤ sumN (lenF l) k + lenF l k ∧ sumN (lenF l) k + lenF l k ≤ _
    omega

theorem arcs_ok {s : Stroke} (h : StV (s.points.getD [])) : ∃ A : List Int, t_impl_arcsOf s = some (some A) ∧ A.length = (s.points.getD []).length ∧ ∀ j, j < (s.points.getD []).length → A[j]? = some (sumN (lenF (s.points.getD [])) j) := by
  have n1 := h.n1
  have n2 := h.n2
  obtain ⟨l, hL⟩ : ∃ l, s.points.getD [] = l := ⟨_, rfl⟩
  rw [hL] at h n1 n2 ⊢
  obtain ⟨q, e, A, rfl, e1, e2⟩ := loopT_ex (step := s0_impl_arcsOf s) (fun k t => ∃ A, t = (some A, ((k + 1 : Nat) : Int)) ∧ A.length = k + 1 ∧ ∀ j, j < k + 1 → A[j]? = some (sumN (lenF l) j)) (l.length - 1) (fun q => ∃ A, q = some A ∧ A.length = l.length ∧ ∀ j, j < l.length → A[j]? = some (sumN (lenF l) j))
    (fun k t hk ht => by
      obtain ⟨A, rfl, a1, a2⟩ := ht
      have c : ((k + 1 : Nat) : Int) < ((l.length : Nat) : Int) := by omega
      have w1 : wr (((k + 1 : Nat) : Int) - 1) = ((k : Nat) : Int) := by rw [wr_id (by omega) (by omega)]; omega
      have w2 : wr (((k + 1 : Nat) : Int) + 1) = ((k + 1 + 1 : Nat) : Int) := by rw [wr_id (by omega) (by omega)]; omega
      have g := getI_nat (a2 k (by omega))
      have le := (lengthOf_ok (pt_v h (i := k) (by omega)) (pt_v h (i := k + 1) (by omega))).1
      have b1 := lenS_le h (k := k) (by omega)
      have b2 := lenF_le h (i := k) (by omega)
      have w3 : wr (sumN (lenF l) k + lenF l k) = sumN (lenF l) (k + 1) := wr_id (by omega) (by omega)
      have w3' : wr (sumN (lenF l) k + lenP (pt l k) (pt l (k + 1))) = sumN (lenF l) (k + 1) := w3
      refine .inl ⟨(some (A ++ [sumN (lenF l) (k + 1)]), ((k + 1 + 1 : Nat) : Int)), ?_, _, rfl, by simp [a1], fun j hj => ?_⟩
      · unfold s0_impl_arcsOf
        simp only [hL, c, decide_true, cond_true, w1, Option.getD_some, g, get_pt (l := l) (i := k) (by omega), get_pt (l := l) (i := k + 1) (by omega), le, obind_sm, w3', appO_one (some A) _ (by simp only [Option.getD_some]; omega), appS_cons, w2]
      · by_cases c2 : j < k + 1
        · rw [List.getElem?_append_left (by omega)]
          exact a2 j c2
        · have : j = k + 1 := by omega
          subst this
          rw [List.getElem?_append_right (by omega), a1, Nat.sub_self]
          rfl)
    (fun t ht => by
      obtain ⟨A, rfl, a1, a2⟩ := ht
      have c : ¬ ((l.length - 1 + 1 : Nat) : Int) < ((l.length : Nat) : Int) := by omega
      refine ⟨some A, ?_, A, rfl, by omega, fun j hj => a2 j (by omega)⟩
      unfold s0_impl_arcsOf
      simp only [hL, c, decide_false, cond_false])
    (s := (some [0], 1)) ⟨[0], rfl, rfl, fun j hj => by
      have : j = 0 := by omega
      subst this
      rfl⟩
  refine ⟨A, ?_, e1, e2⟩
  unfold t_impl_arcsOf
  rw [e, obind_sm]

theorem strokeLen_ok {s : Stroke} (h : StV (s.points.getD [])) : t_impl_strokeLength s = some (slen (s.points.getD [])) := by
  have n1 := h.n1
  have n2 := h.n2
  obtain ⟨A, e, e1, e2⟩ := arcs_ok h
  have w : wr ((((s.points.getD []).length : Nat) : Int) - 1) = (((s.points.getD []).length - 1 : Nat) : Int) := by rw [wr_id (by omega) (by omega)]; omega
  have g := getI_nat (e2 ((s.points.getD []).length - 1) (by omega))
  unfold t_impl_strokeLength
  simp only [e, obind_sm, Option.getD_some, e1, w, g]
  rfl

theorem l05Sum_ok {s : Stroke} (h : StV (s.points.getD [])) : t_spec_l05Sum s = some (slen (s.points.getD [])) := by
  have n1 := h.n1
  have n2 := h.n2
  obtain ⟨l, hL⟩ : ∃ l, s.points.getD [] = l := ⟨_, rfl⟩
  rw [hL] at h n1 n2 ⊢
  have lp := loopT_at (step := s0_spec_l05Sum s) (l.length - 1) (fun k => (sumN (lenF l) k, ((k + 1 : Nat) : Int))) (slen l)
    (fun k hk => by
      have c : ((k + 1 : Nat) : Int) < ((l.length : Nat) : Int) := by omega
      have w1 : wr (((k + 1 : Nat) : Int) - 1) = ((k : Nat) : Int) := by rw [wr_id (by omega) (by omega)]; omega
      have w2 : wr (((k + 1 : Nat) : Int) + 1) = ((k + 1 + 1 : Nat) : Int) := by rw [wr_id (by omega) (by omega)]; omega
      have le := (lengthOf_ok (pt_v h (i := k) (by omega)) (pt_v h (i := k + 1) (by omega))).2
      have b1 := lenS_le h (k := k) (by omega)
      have b2 := lenF_le h (i := k) (by omega)
      have w3 : wr (sumN (lenF l) k + lenF l k) = sumN (lenF l) (k + 1) := wr_id (by omega) (by omega)
      have w3' : wr (sumN (lenF l) k + lenP (pt l k) (pt l (k + 1))) = sumN (lenF l) (k + 1) := w3
      unfold s0_spec_l05Sum
      simp only [hL, c, decide_true, cond_true, w1, get_pt (l := l) (i := k) (by omega), get_pt (l := l) (i := k + 1) (by omega), le, obind_sm, w3', w2])
    (by
      have c : ¬ ((l.length - 1 + 1 : Nat) : Int) < ((l.length : Nat) : Int) := by omega
      unfold s0_spec_l05Sum
      simp only [hL, c, decide_false, cond_false]
      rfl)
    0 (Nat.zero_le _)
  have lp' : loopT (s0_spec_l05Sum s) (0, 1) = some (slen l) := lp
  unfold t_spec_l05Sum
  rw [lp', obind_sm]

def strokeL (l : List Point) : Int × Int := bif vS l then (slen l, 0) else (0, 1)

theorem strokeL_ok (s : Stroke) (hs : StB s) : t_impl_StrokeLength s = some (strokeL (s.points.getD [])) ∧ t_spec_StrokeLength s = some (strokeL (s.points.getD [])) := by
  unfold t_impl_StrokeLength t_spec_StrokeLength strokeL
  rw [validStroke_vS s hs.le, l02Stroke_vS s hs.le]
  cases h : vS (s.points.getD []) with
  | false => exact ⟨rfl, rfl⟩
  | true =>
    simp only [obind_sm, Bool.not_true, cond_false, cond_true, strokeLen_ok (vS_iff.1 h), l05Sum_ok (vS_iff.1 h)]
    constructor <;> first | rfl | trivial

theorem pt_some {l : List Point} {k : Nat} (hk : k < l.length) : l[k]? = some (pt l k) := (getI_iff.1 (get_pt hk)).2

theorem specArcs_ok {s : Stroke} (h : StV (s.points.getD [])) : ∃ A : List Int, t_spec_l06Arcs s = some (some A) ∧ A.length = (s.points.getD []).length ∧ ∀ j, j < (s.points.getD []).length → A[j]? = some (sumN (lenF (s.points.getD [])) j) := by
  have n1 := h.n1
  have n2 := h.n2
  obtain ⟨l, hL⟩ : ∃ l, s.points.getD [] = l := ⟨_, rfl⟩
  rw [hL] at h n1 n2 ⊢
  obtain ⟨q, e, A, rfl, e1, e2⟩ := loopT_ex (step := s0_spec_l06Arcs s) (fun k t => ∃ A, t = (some A, ((k + 1 : Nat) : Int)) ∧ A.length = k + 1 ∧ ∀ j, j < k + 1 → A[j]? = some (sumN (lenF l) j)) (l.length - 1) (fun q => ∃ A, q = some A ∧ A.length = l.length ∧ ∀ j, j < l.length → A[j]? = some (sumN (lenF l) j))
    (fun k t hk ht => by
      obtain ⟨A, rfl, a1, a2⟩ := ht
      have c : ((k + 1 : Nat) : Int) < ((l.length : Nat) : Int) := by omega
      have w1 : wr (((k + 1 : Nat) : Int) - 1) = ((k : Nat) : Int) := by rw [wr_id (by omega) (by omega)]; omega
      have w2 : wr (((k + 1 : Nat) : Int) + 1) = ((k + 1 + 1 : Nat) : Int) := by rw [wr_id (by omega) (by omega)]; omega
      have g := getI_nat (a2 k (by omega))
      have le := (lengthOf_ok (pt_v h (i := k) (by omega)) (pt_v h (i := k + 1) (by omega))).2
      have b1 := lenS_le h (k := k) (by omega)
      have b2 := lenF_le h (i := k) (by omega)
      have w3 : wr (sumN (lenF l) k + lenF l k) = sumN (lenF l) (k + 1) := wr_id (by omega) (by omega)
      have w3' : wr (sumN (lenF l) k + lenP (pt l k) (pt l (k + 1))) = sumN (lenF l) (k + 1) := w3
      refine .inl ⟨(some (A ++ [sumN (lenF l) (k + 1)]), ((k + 1 + 1 : Nat) : Int)), ?_, _, rfl, by simp [a1], fun j hj => ?_⟩
      · unfold s0_spec_l06Arcs
        simp only [hL, c, decide_true, cond_true, w1, Option.getD_some, g, get_pt (l := l) (i := k) (by omega), get_pt (l := l) (i := k + 1) (by omega), le, obind_sm, w3', appO_one (some A) _ (by simp only [Option.getD_some]; omega), appS_cons, w2]
      · by_cases c2 : j < k + 1
        · rw [List.getElem?_append_left (by omega)]
          exact a2 j c2
        · have : j = k + 1 := by omega
          subst this
          rw [List.getElem?_append_right (by omega), a1, Nat.sub_self]
          rfl)
    (fun t ht => by
      obtain ⟨A, rfl, a1, a2⟩ := ht
      have c : ¬ ((l.length - 1 + 1 : Nat) : Int) < ((l.length : Nat) : Int) := by omega
      refine ⟨some A, ?_, A, rfl, by omega, fun j hj => a2 j (by omega)⟩
      unfold s0_spec_l06Arcs
      simp only [hL, c, decide_false, cond_false])
    (s := (some [0], 1)) ⟨[0], rfl, rfl, fun j hj => by
      have : j = 0 := by omega
      subst this
      rfl⟩
  refine ⟨A, ?_, e1, e2⟩
  unfold t_spec_l06Arcs
  rw [e, obind_sm]

/-- A list that is built by a loop, element by element. -/
theorem buildLoop {A : Type} (l : List A) {n : Nat} (hn : l.length = n) (h1 : n ≤ 1000) (i0 : Nat) (s0 : Sl A) (hs0 : s0.getD [] = []) (step : ((Sl A) × Int) → Option (Sum ((Sl A) × Int) (Sl A)))
    (next : ∀ (w : Sl A) (k : Nat) a, l[k]? = some a → step (w, ((k + i0 : Nat) : Int)) = obind (appO w [a]) fun _ => some (.inl (appS w [a], wr (((k + i0 : Nat) : Int) + 1))))
    (hi0 : i0 ≤ 1000) (fin : ∀ (w : Sl A), step (w, ((n + i0 : Nat) : Int)) = some (.inr w)) : ∃ q, loopT step (s0, (i0 : Int)) = some q ∧ q.getD [] = l := by
  have h := loopT_ex (step := step) (fun k t => t.1.getD [] = l.take k ∧ t.2 = ((k + i0 : Nat) : Int)) n (fun q => q.getD [] = l)
    (fun k ⟨w, i⟩ hk ⟨g1, g2⟩ => by
      simp only at g1 g2
      subst g2
      obtain ⟨a, ha⟩ : ∃ a, l[k]? = some a := ⟨l[k]'(by omega), List.getElem?_eq_getElem _⟩
      have e := next w k a ha
      have ws : wr (((k + i0 : Nat) : Int) + 1) = ((k + 1 + i0 : Nat) : Int) := by rw [wr_id (by omega) (by omega)]; omega
      rw [ws, appO_one w a (by rw [g1, List.length_take]; omega), obind_sm, appS_cons] at e
      refine .inl ⟨_, e, ?_, rfl⟩
      show w.getD [] ++ [a] = _
      rw [g1, List.take_add_one, ha]
      rfl)
    (fun ⟨w, i⟩ ⟨g1, g2⟩ => by
      simp only at g1 g2
      subst g2
      refine ⟨w, fin w, ?_⟩
      rw [g1, List.take_of_length_le (by omega)])
    (s := (s0, (i0 : Int))) ⟨by rw [hs0, List.take_zero], by simp⟩
  exact h

def spots (l : List Point) : List Spot := l.map fun p => ⟨p.x, p.y⟩

theorem implSpots_ok (s : Stroke) (hs : StB s) : ∃ q n, t_impl_SpotsOf s = some (q, n) ∧ ((vS (s.points.getD []) = false ∧ n = 1 ∧ q.getD [] = []) ∨ (vS (s.points.getD []) = true ∧ n = 0 ∧ q.getD [] = spots (s.points.getD []))) := by
  unfold t_impl_SpotsOf
  rw [validStroke_vS s hs.le]
  cases hv : vS (s.points.getD []) with
  | false => exact ⟨_, _, rfl, .inl ⟨rfl, rfl, rfl⟩⟩
  | true =>
    have h := vS_iff.1 hv
    have n2 := h.n2
    obtain ⟨q, e, hq⟩ := buildLoop (spots (s.points.getD [])) (n := (s.points.getD []).length) (by simp [spots]) (by omega) 0 none rfl (s0_impl_SpotsOf s) (fun w k a ha => by
      have hk : k < (s.points.getD []).length := by have := get_lt ha; simpa [spots] using this
      have c : (k : Int) < (((s.points.getD []).length : Nat) : Int) := by omega
      have ea : a = ⟨(pt (s.points.getD []) k).x, (pt (s.points.getD []) k).y⟩ := by
        unfold spots at ha
        rw [List.getElem?_map, pt_some hk] at ha
        exact (Option.some.inj ha).symm
      subst ea
      unfold s0_impl_SpotsOf t_impl_spotOf
      simp only [Nat.add_zero, c, decide_true, cond_true, get_pt hk, obind_sm]) (by omega) (fun w => by
      unfold s0_impl_SpotsOf
      simp only [Nat.add_zero, Int.lt_irrefl, decide_false, cond_false])
    have e' : loopT (s0_impl_SpotsOf s) (none, 0) = some q := e
    refine ⟨q, 0, ?_, .inr ⟨rfl, rfl, hq⟩⟩
    simp only [obind_sm, Bool.not_true, cond_false, e']

end Go.Proofs.Ytdikndbpcceogaa
