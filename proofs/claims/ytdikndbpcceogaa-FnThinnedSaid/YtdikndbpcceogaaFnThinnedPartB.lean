/-
  Functions that the law FnThinned reaches: their walks and contracts, part 2.
-/
import Derived.Test.YtdikndbpcceogaaFnThinnedPartA
namespace Go.Proofs.Ytdikndbpcceogaa
open Go Go.Eng Go.Eng.Cod
set_option maxRecDepth 100000
set_option linter.unusedVariables false
set_option linter.unusedSimpArgs false

theorem tl0_impl_boxOfStroke (env : Nat → Contract) {B : Base} (he_impl_firstOf : env n_impl_firstOf = .pure (C1 (fun c : Point => enc c) t_impl_firstOf)) (he_impl_joinBoxes : env n_impl_joinBoxes = .pure (T2 joinBox)) (s_ : Stroke) (o1 : Nat) (o5 : Nat) (c9 : Point) (o10 : Nat) (o16 : Nat)  {st : Int × Int × Int × Int × Int} {tm : TM} {h : Heap} (R : (fun (st : Int × Int × Int × Int × Int) tm h26 => match st with | (w22, w23, w24, w25, w28) => tm = [AV.agg [Sl.enc s_.points], AV.ptr o1 1 0 0, AV.ptr o5 1 0 0, AV.ptr o10 1 0 0, AV.ptr o16 1 0 0, und, AV.top, AV.agg [Sl.enc s_.points], AV.agg [iv c9.x, iv c9.y, iv c9.t], AV.ptr o10 1 0 0, iv c9.x, AV.ptr o10 1 0 1, iv c9.y, AV.ptr o10 1 0 0, iv c9.x, AV.ptr o10 1 0 1, iv c9.y, AV.agg [iv c9.x, iv c9.y, iv c9.x, iv c9.y], AV.ptr o1 1 0 0, Sl.enc s_.points, iv (((s_.points.getD []).length : Nat) : Int), iv w28, AV.top, AV.top, AV.top, AV.top, AV.top, AV.top, AV.top, AV.top, AV.top, AV.top, AV.top, AV.top, AV.top, AV.top, AV.top, und] ∧ Hold B h26 [(AV.ptr o1 1 0 0, .pt 1 [Sl.enc s_.points]), (AV.ptr o5 1 0 0, .pt 4 [iv 0, iv 0, iv 0, iv 0]), (AV.ptr o10 1 0 0, .pt 3 [iv c9.x, iv c9.y, iv c9.t]), (AV.ptr o16 1 0 0, .pt 4 [iv w22, iv w23, iv w24, iv w25])]) st tm h) : Sim (loopP hm0_impl_boxOfStroke xm0_impl_boxOfStroke (lb0_impl_boxOfStroke env) tm h) (loopT (s0_impl_boxOfStroke s_) st) (fun (q : Int × Int × Int × Int) (r : Res) => match q with | (q31, q32, q33, q34) => ∃ (z35 : AV) (h29 : Heap), r = (.exit 0, [AV.agg [Sl.enc s_.points], AV.ptr o1 1 0 0, AV.ptr o5 1 0 0, AV.ptr o10 1 0 0, AV.ptr o16 1 0 0, und, z35, AV.agg [Sl.enc s_.points], AV.agg [iv c9.x, iv c9.y, iv c9.t], AV.ptr o10 1 0 0, iv c9.x, AV.ptr o10 1 0 1, iv c9.y, AV.ptr o10 1 0 0, iv c9.x, AV.ptr o10 1 0 1, iv c9.y, AV.agg [iv c9.x, iv c9.y, iv c9.x, iv c9.y], AV.ptr o1 1 0 0, Sl.enc s_.points, iv (((s_.points.getD []).length : Nat) : Int), AV.top, AV.top, AV.top, AV.top, AV.top, AV.top, AV.top, AV.top, AV.top, AV.top, AV.top, AV.top, AV.top, AV.top, AV.top, AV.top, und], h29) ∧ Hold B h29 [(AV.ptr o1 1 0 0, .pt 1 [Sl.enc s_.points]), (AV.ptr o5 1 0 0, .pt 4 [iv 0, iv 0, iv 0, iv 0]), (AV.ptr o10 1 0 0, .pt 3 [iv c9.x, iv c9.y, iv c9.t]), (AV.ptr o16 1 0 0, .pt 4 [iv q31, iv q32, iv q33, iv q34])]) := by
  refine loop_sim (Rel := fun (st : Int × Int × Int × Int × Int) tm h26 => match st with | (w22, w23, w24, w25, w28) => tm = [AV.agg [Sl.enc s_.points], AV.ptr o1 1 0 0, AV.ptr o5 1 0 0, AV.ptr o10 1 0 0, AV.ptr o16 1 0 0, und, AV.top, AV.agg [Sl.enc s_.points], AV.agg [iv c9.x, iv c9.y, iv c9.t], AV.ptr o10 1 0 0, iv c9.x, AV.ptr o10 1 0 1, iv c9.y, AV.ptr o10 1 0 0, iv c9.x, AV.ptr o10 1 0 1, iv c9.y, AV.agg [iv c9.x, iv c9.y, iv c9.x, iv c9.y], AV.ptr o1 1 0 0, Sl.enc s_.points, iv (((s_.points.getD []).length : Nat) : Int), iv w28, AV.top, AV.top, AV.top, AV.top, AV.top, AV.top, AV.top, AV.top, AV.top, AV.top, AV.top, AV.top, AV.top, AV.top, AV.top, und] ∧ Hold B h26 [(AV.ptr o1 1 0 0, .pt 1 [Sl.enc s_.points]), (AV.ptr o5 1 0 0, .pt 4 [iv 0, iv 0, iv 0, iv 0]), (AV.ptr o10 1 0 0, .pt 3 [iv c9.x, iv c9.y, iv c9.t]), (AV.ptr o16 1 0 0, .pt 4 [iv w22, iv w23, iv w24, iv w25])]) (fun st tm h26 R => ?_) R
  obtain ⟨w22, w23, w24, w25, w28⟩ := st
  obtain ⟨rfl, O27⟩ := R
  rw [e_lb0_impl_boxOfStroke]
  unfold s0_impl_boxOfStroke
  dsimp only
  refine sim_let (v := bv (decide (w28 < (((s_.points.getD []).length : Nat) : Int)))) (aBin_lss _ _) ?_
  refine sim_cond (fun c38 => ?_) (fun c38 => ?_)
  · refine sim_get (Tab.enc h26 s_.points) (fun m40 a39 hi41 hm42 => ?_)
    refine sim_let (v := AV.agg [iv a39.x, iv a39.y, iv a39.t]) ((Tab.enc h26 s_.points).ld hm42 true 3 0) ?_
    refine sim_box O27 (cs := [iv 0, iv 0, iv 0]) (by first | rfl | simp) (fun o43 h44 O45 => ?_)
    replace O45 : Hold B h44 [(AV.ptr o1 1 0 0, .pt 1 [Sl.enc s_.points]), (AV.ptr o5 1 0 0, .pt 4 [iv 0, iv 0, iv 0, iv 0]), (AV.ptr o10 1 0 0, .pt 3 [iv c9.x, iv c9.y, iv c9.t]), (AV.ptr o16 1 0 0, .pt 4 [iv w22, iv w23, iv w24, iv w25]), (AV.ptr o43 1 0 0, .pt 3 [iv 0, iv 0, iv 0])] := O45
    refine sim_store O45 4 (cs' := [iv a39.x, iv a39.y, iv a39.t]) rfl (by first | rfl | simp) (by simp) (by first | rfl | simp) (by first | rfl | simp [splice]) (fun h47 O48 => ?_)
    replace O48 : Hold B h47 [(AV.ptr o1 1 0 0, .pt 1 [Sl.enc s_.points]), (AV.ptr o5 1 0 0, .pt 4 [iv 0, iv 0, iv 0, iv 0]), (AV.ptr o10 1 0 0, .pt 3 [iv c9.x, iv c9.y, iv c9.t]), (AV.ptr o16 1 0 0, .pt 4 [iv w22, iv w23, iv w24, iv w25]), (AV.ptr o43 1 0 0, .pt 3 [iv a39.x, iv a39.y, iv a39.t])] := O48
    refine sim_let (v := AV.agg [iv w22, iv w23, iv w24, iv w25]) (O48.ld 3 rfl true 4 0) ?_
    refine sim_let (v := AV.ptr o43 1 0 0) rfl ?_
    refine sim_let (v := iv a39.x) (O48.ld 4 rfl false 1 0) ?_
    refine sim_let (v := AV.ptr o43 1 0 1) rfl ?_
    refine sim_let (v := iv a39.y) (O48.ld 4 rfl false 1 1) ?_
    refine sim_let (v := AV.ptr o43 1 0 0) rfl ?_
    refine sim_let (v := iv a39.x) (O48.ld 4 rfl false 1 0) ?_
    refine sim_let (v := AV.ptr o43 1 0 1) rfl ?_
    refine sim_let (v := iv a39.y) (O48.ld 4 rfl false 1 1) ?_
    refine sim_let (v := AV.agg [iv a39.x, iv a39.y, iv a39.x, iv a39.y]) (by first | rfl | simp [aBuild, aFill, splice]) ?_
    refine sim_callV2 (t := joinBox) he_impl_joinBoxes (snapD_nr _ (⟨w22, w23, w24, w25⟩ : Box) rfl) (snapD_nr _ (⟨a39.x, a39.y, a39.x, a39.y⟩ : Box) rfl) (fun c49 => ?_)
    refine sim_store O48 3 (cs' := [iv c49.x1, iv c49.y1, iv c49.x2, iv c49.y2]) rfl (by first | rfl | simp) (by simp) (by first | rfl | simp) (by first | rfl | simp [splice]) (fun h50 O51 => ?_)
    replace O51 : Hold B h50 [(AV.ptr o1 1 0 0, .pt 1 [Sl.enc s_.points]), (AV.ptr o5 1 0 0, .pt 4 [iv 0, iv 0, iv 0, iv 0]), (AV.ptr o10 1 0 0, .pt 3 [iv c9.x, iv c9.y, iv c9.t]), (AV.ptr o16 1 0 0, .pt 4 [iv c49.x1, iv c49.y1, iv c49.x2, iv c49.y2]), (AV.ptr o43 1 0 0, .pt 3 [iv a39.x, iv a39.y, iv a39.t])] := O51
    refine sim_let (v := iv (wr (w28 + 1))) (aBin_add _ _) ?_
    have O52 : Hold B h50 [(AV.ptr o1 1 0 0, .pt 1 [Sl.enc s_.points]), (AV.ptr o5 1 0 0, .pt 4 [iv 0, iv 0, iv 0, iv 0]), (AV.ptr o10 1 0 0, .pt 3 [iv c9.x, iv c9.y, iv c9.t]), (AV.ptr o16 1 0 0, .pt 4 [iv c49.x1, iv c49.y1, iv c49.x2, iv c49.y2])] := O51.sel [0, 1, 2, 3] (by decide) rfl
    exact sim_ret ⟨rfl, rfl, O52⟩
  · exact sim_ret ⟨nofun, _, _, rfl, O27⟩
theorem ts_impl_boxOfStroke (env : Nat → Contract) (he_impl_firstOf : env n_impl_firstOf = .pure (C1 (fun c : Point => enc c) t_impl_firstOf)) (he_impl_joinBoxes : env n_impl_joinBoxes = .pure (T2 joinBox)) (s_ : Stroke) : Sim (denFn Try.prog env n_impl_boxOfStroke [AV.agg [Sl.enc s_.points]] []) (t_impl_boxOfStroke s_) fun c p => release p.2 depth p.1 = some ((fun c : Box => enc c) c) := by
  have O := Hold.nil []
  generalize hB : (⟨[], []⟩ : Base) = B at O
  clear hB
  rw [e_impl_boxOfStroke]
  unfold t_impl_boxOfStroke
  refine sim_box O (cs := [Sl.enc s_.points]) (by first | rfl | simp) (fun o1 h2 O3 => ?_)
  replace O3 : Hold B h2 [(AV.ptr o1 1 0 0, .pt 1 [Sl.enc s_.points])] := O3
  refine sim_box O3 (cs := [iv 0, iv 0, iv 0, iv 0]) (by first | rfl | simp) (fun o5 h6 O7 => ?_)
  replace O7 : Hold B h6 [(AV.ptr o1 1 0 0, .pt 1 [Sl.enc s_.points]), (AV.ptr o5 1 0 0, .pt 4 [iv 0, iv 0, iv 0, iv 0])] := O7
  refine sim_let (v := AV.agg [Sl.enc s_.points]) (O7.ld 0 rfl true 1 0) ?_
  refine sim_call1 he_impl_firstOf (snapD_nr _ s_ rfl) (fun c9 => ?_)
  refine sim_let2 (hand_plain (by rfl) _ _) ?_
  refine sim_box O7 (cs := [iv 0, iv 0, iv 0]) (by first | rfl | simp) (fun o10 h11 O12 => ?_)
  replace O12 : Hold B h11 [(AV.ptr o1 1 0 0, .pt 1 [Sl.enc s_.points]), (AV.ptr o5 1 0 0, .pt 4 [iv 0, iv 0, iv 0, iv 0]), (AV.ptr o10 1 0 0, .pt 3 [iv 0, iv 0, iv 0])] := O12
  refine sim_store O12 2 (cs' := [iv c9.x, iv c9.y, iv c9.t]) rfl (by first | rfl | simp) (by simp) (by first | rfl | simp) (by first | rfl | simp [splice]) (fun h14 O15 => ?_)
  replace O15 : Hold B h14 [(AV.ptr o1 1 0 0, .pt 1 [Sl.enc s_.points]), (AV.ptr o5 1 0 0, .pt 4 [iv 0, iv 0, iv 0, iv 0]), (AV.ptr o10 1 0 0, .pt 3 [iv c9.x, iv c9.y, iv c9.t])] := O15
  refine sim_let (v := AV.ptr o10 1 0 0) rfl ?_
  refine sim_let (v := iv c9.x) (O15.ld 2 rfl false 1 0) ?_
  refine sim_let (v := AV.ptr o10 1 0 1) rfl ?_
  refine sim_let (v := iv c9.y) (O15.ld 2 rfl false 1 1) ?_
  refine sim_let (v := AV.ptr o10 1 0 0) rfl ?_
  refine sim_let (v := iv c9.x) (O15.ld 2 rfl false 1 0) ?_
  refine sim_let (v := AV.ptr o10 1 0 1) rfl ?_
  refine sim_let (v := iv c9.y) (O15.ld 2 rfl false 1 1) ?_
  refine sim_let (v := AV.agg [iv c9.x, iv c9.y, iv c9.x, iv c9.y]) (by first | rfl | simp [aBuild, aFill, splice]) ?_
  refine sim_box O15 (cs := [iv 0, iv 0, iv 0, iv 0]) (by first | rfl | simp) (fun o16 h17 O18 => ?_)
  replace O18 : Hold B h17 [(AV.ptr o1 1 0 0, .pt 1 [Sl.enc s_.points]), (AV.ptr o5 1 0 0, .pt 4 [iv 0, iv 0, iv 0, iv 0]), (AV.ptr o10 1 0 0, .pt 3 [iv c9.x, iv c9.y, iv c9.t]), (AV.ptr o16 1 0 0, .pt 4 [iv 0, iv 0, iv 0, iv 0])] := O18
  refine sim_store O18 3 (cs' := [iv c9.x, iv c9.y, iv c9.x, iv c9.y]) rfl (by first | rfl | simp) (by simp) (by first | rfl | simp) (by first | rfl | simp [splice]) (fun h20 O21 => ?_)
  replace O21 : Hold B h20 [(AV.ptr o1 1 0 0, .pt 1 [Sl.enc s_.points]), (AV.ptr o5 1 0 0, .pt 4 [iv 0, iv 0, iv 0, iv 0]), (AV.ptr o10 1 0 0, .pt 3 [iv c9.x, iv c9.y, iv c9.t]), (AV.ptr o16 1 0 0, .pt 4 [iv c9.x, iv c9.y, iv c9.x, iv c9.y])] := O21
  refine sim_let (v := AV.ptr o1 1 0 0) rfl ?_
  refine sim_let (v := Sl.enc s_.points) (O21.ld 0 rfl false 1 0) ?_
  refine sim_let (v := iv (((s_.points.getD []).length : Nat) : Int)) (Tab.enc h20 s_.points).len ?_
  refine sim_bind ((tl0_impl_boxOfStroke env he_impl_firstOf he_impl_joinBoxes s_ o1 o5 c9 o10 o16) ⟨rfl, O21⟩) (fun qq55 r hq => ?_)
  obtain ⟨q31, q32, q33, q34⟩ := qq55
  obtain ⟨z35, h29, rfl, O30⟩ := hq
  rw [e_lk0x0_impl_boxOfStroke]
  refine sim_let (v := AV.agg [iv q31, iv q32, iv q33, iv q34]) (O30.ld 3 rfl true 4 0) ?_
  refine sim_store O30 1 (cs' := [iv q31, iv q32, iv q33, iv q34]) rfl (by first | rfl | simp) (by simp) (by first | rfl | simp) (by first | rfl | simp [splice]) (fun h36 O37 => ?_)
  replace O37 : Hold B h36 [(AV.ptr o1 1 0 0, .pt 1 [Sl.enc s_.points]), (AV.ptr o5 1 0 0, .pt 4 [iv q31, iv q32, iv q33, iv q34]), (AV.ptr o10 1 0 0, .pt 3 [iv c9.x, iv c9.y, iv c9.t]), (AV.ptr o16 1 0 0, .pt 4 [iv q31, iv q32, iv q33, iv q34])] := O37
  refine sim_retL (resL_c (v := AV.agg [iv q31, iv q32, iv q33, iv q34]) (O37.ld 1 rfl true 4 0) (resL_nil _)) ?_
  dsimp only [pack]
  exact sim_ret (release_plain (by rfl) _)
theorem tt_impl_boxOfStroke : PureOK Try.prog n_impl_boxOfStroke (C1 (fun c : Box => enc c) t_impl_boxOfStroke) := pureC1 (Econs tt_impl_firstOf (Econs ok_impl_joinBoxes E0)) mixed hb_impl_boxOfStroke fun s_ => ts_impl_boxOfStroke _ (by simp [envL]) (by simp [envL]) s_

def t_impl_BoxOfStroke (s_ : Stroke) : Option (Box × Int) :=
  obind (t_impl_ValidStroke s_) fun c9 =>
  bif !c9 then
    some ((⟨0, 0, 0, 0⟩ : Box), 1)
  else
    obind (t_impl_boxOfStroke s_) fun c13 =>
    some (c13, 0)

theorem ts_impl_BoxOfStroke (env : Nat → Contract) (he_impl_ValidStroke : env n_impl_ValidStroke = .pure (C1 (fun c : Bool => enc c) t_impl_ValidStroke)) (he_impl_boxOfStroke : env n_impl_boxOfStroke = .pure (C1 (fun c : Box => enc c) t_impl_boxOfStroke)) (s_ : Stroke) : Sim (denFn Try.prog env n_impl_BoxOfStroke [AV.agg [Sl.enc s_.points]] []) (t_impl_BoxOfStroke s_) fun c p => release p.2 depth p.1 = some ((fun c : Box × Int => AV.tup [enc c.1, enc c.2]) c) := by
  have O := Hold.nil []
  generalize hB : (⟨[], []⟩ : Base) = B at O
  clear hB
  rw [e_impl_BoxOfStroke]
  unfold t_impl_BoxOfStroke
  refine sim_box O (cs := [Sl.enc s_.points]) (by first | rfl | simp) (fun o1 h2 O3 => ?_)
  replace O3 : Hold B h2 [(AV.ptr o1 1 0 0, .pt 1 [Sl.enc s_.points])] := O3
  refine sim_box O3 (cs := [iv 0, iv 0, iv 0, iv 0]) (by first | rfl | simp) (fun o5 h6 O7 => ?_)
  replace O7 : Hold B h6 [(AV.ptr o1 1 0 0, .pt 1 [Sl.enc s_.points]), (AV.ptr o5 1 0 0, .pt 4 [iv 0, iv 0, iv 0, iv 0])] := O7
  refine sim_let (v := AV.agg [Sl.enc s_.points]) (O7.ld 0 rfl true 1 0) ?_
  refine sim_call1 he_impl_ValidStroke (snapD_nr _ s_ rfl) (fun c9 => ?_)
  refine sim_let2 (hand_plain (by rfl) _ _) ?_
  refine sim_let (v := bv (!c9)) (aUn_not _) ?_
  refine sim_cond (fun c10 => ?_) (fun c10 => ?_)
  · refine sim_let (v := AV.agg [iv 0, iv 0, iv 0, iv 0]) (by first | rfl | simp [aBuild, aFill, splice]) ?_
    refine sim_store O7 1 (cs' := [iv 0, iv 0, iv 0, iv 0]) rfl (by first | rfl | simp) (by simp) (by first | rfl | simp) (by first | rfl | simp [splice]) (fun h11 O12 => ?_)
    replace O12 : Hold B h11 [(AV.ptr o1 1 0 0, .pt 1 [Sl.enc s_.points]), (AV.ptr o5 1 0 0, .pt 4 [iv 0, iv 0, iv 0, iv 0])] := O12
    refine sim_retL (resL_c (v := AV.agg [iv 0, iv 0, iv 0, iv 0]) (O12.ld 1 rfl true 4 0) (resL_v (v := iv 1) (resL_nil _))) ?_
    dsimp only [pack]
    exact sim_ret (release_plain (by rfl) _)
  · refine sim_let (v := AV.agg [Sl.enc s_.points]) (O7.ld 0 rfl true 1 0) ?_
    refine sim_call1 he_impl_boxOfStroke (snapD_nr _ s_ rfl) (fun c13 => ?_)
    refine sim_let2 (hand_plain (by rfl) _ _) ?_
    refine sim_store O7 1 (cs' := [iv c13.x1, iv c13.y1, iv c13.x2, iv c13.y2]) rfl (by first | rfl | simp) (by simp) (by first | rfl | simp) (by first | rfl | simp [splice]) (fun h14 O15 => ?_)
    replace O15 : Hold B h14 [(AV.ptr o1 1 0 0, .pt 1 [Sl.enc s_.points]), (AV.ptr o5 1 0 0, .pt 4 [iv c13.x1, iv c13.y1, iv c13.x2, iv c13.y2])] := O15
    refine sim_retL (resL_c (v := AV.agg [iv c13.x1, iv c13.y1, iv c13.x2, iv c13.y2]) (O15.ld 1 rfl true 4 0) (resL_v (v := iv 0) (resL_nil _))) ?_
    dsimp only [pack]
    exact sim_ret (release_plain (by rfl) _)
theorem tt_impl_BoxOfStroke : PureOK Try.prog n_impl_BoxOfStroke (C1 (fun c : Box × Int => AV.tup [enc c.1, enc c.2]) t_impl_BoxOfStroke) := pureC1 (Econs tt_impl_ValidStroke (Econs tt_impl_boxOfStroke E0)) mixed hb_impl_BoxOfStroke fun s_ => ts_impl_BoxOfStroke _ (by simp [envL]) (by simp [envL]) s_

def t_impl_JoinBoxes (a_ : Box) (b_ : Box) : Option (Box × Int) :=
  obind (some (validBox a_)) fun c13 =>
  obind (bif !c13 then some false else (obind (some (validBox b_)) fun c15 => some (!c15))) fun c16 =>
  bif (bif !c13 then true else c16) then
    some ((⟨0, 0, 0, 0⟩ : Box), 1)
  else
    obind (some (joinBox a_ b_)) fun c20 =>
    some (c20, 0)

theorem ts_impl_JoinBoxes (env : Nat → Contract) (he_impl_ValidBox : env n_impl_ValidBox = .pure (T1 validBox)) (he_impl_joinBoxes : env n_impl_joinBoxes = .pure (T2 joinBox)) (a_ : Box) (b_ : Box) : Sim (denFn Try.prog env n_impl_JoinBoxes [AV.agg [iv a_.x1, iv a_.y1, iv a_.x2, iv a_.y2], AV.agg [iv b_.x1, iv b_.y1, iv b_.x2, iv b_.y2]] []) (t_impl_JoinBoxes a_ b_) fun c p => release p.2 depth p.1 = some ((fun c : Box × Int => AV.tup [enc c.1, enc c.2]) c) := by
  have O := Hold.nil []
  generalize hB : (⟨[], []⟩ : Base) = B at O
  clear hB
  rw [e_impl_JoinBoxes]
  unfold t_impl_JoinBoxes
  refine sim_box O (cs := [iv a_.x1, iv a_.y1, iv a_.x2, iv a_.y2]) (by first | rfl | simp) (fun o1 h2 O3 => ?_)
  replace O3 : Hold B h2 [(AV.ptr o1 1 0 0, .pt 4 [iv a_.x1, iv a_.y1, iv a_.x2, iv a_.y2])] := O3
  refine sim_box O3 (cs := [iv b_.x1, iv b_.y1, iv b_.x2, iv b_.y2]) (by first | rfl | simp) (fun o5 h6 O7 => ?_)
  replace O7 : Hold B h6 [(AV.ptr o1 1 0 0, .pt 4 [iv a_.x1, iv a_.y1, iv a_.x2, iv a_.y2]), (AV.ptr o5 1 0 0, .pt 4 [iv b_.x1, iv b_.y1, iv b_.x2, iv b_.y2])] := O7
  refine sim_box O7 (cs := [iv 0, iv 0, iv 0, iv 0]) (by first | rfl | simp) (fun o9 h10 O11 => ?_)
  replace O11 : Hold B h10 [(AV.ptr o1 1 0 0, .pt 4 [iv a_.x1, iv a_.y1, iv a_.x2, iv a_.y2]), (AV.ptr o5 1 0 0, .pt 4 [iv b_.x1, iv b_.y1, iv b_.x2, iv b_.y2]), (AV.ptr o9 1 0 0, .pt 4 [iv 0, iv 0, iv 0, iv 0])] := O11
  refine sim_let (v := AV.agg [iv a_.x1, iv a_.y1, iv a_.x2, iv a_.y2]) (O11.ld 0 rfl true 4 0) ?_
  refine sim_callV1 (t := validBox) he_impl_ValidBox (snapD_nr _ a_ rfl) (fun c13 => ?_)
  refine sim_let (v := bv (!c13)) (aUn_not _) ?_
  refine sim_guardF (e := bv) (fun hb14 => ?_) (fun c16 => ?_)
  · refine sim_let (v := AV.agg [iv b_.x1, iv b_.y1, iv b_.x2, iv b_.y2]) (O11.ld 1 rfl true 4 0) ?_
    refine sim_callV1 (t := validBox) he_impl_ValidBox (snapD_nr _ b_ rfl) (fun c15 => ?_)
    refine sim_let (v := bv (!c15)) (aUn_not _) ?_
    exact sim_ret rfl
  · refine sim_let (v := bv (bif !c13 then true else c16)) (pick_b' _ _ _) ?_
    refine sim_cond (fun c17 => ?_) (fun c17 => ?_)
    · refine sim_let (v := AV.agg [iv 0, iv 0, iv 0, iv 0]) (by first | rfl | simp [aBuild, aFill, splice]) ?_
      refine sim_store O11 2 (cs' := [iv 0, iv 0, iv 0, iv 0]) rfl (by first | rfl | simp) (by simp) (by first | rfl | simp) (by first | rfl | simp [splice]) (fun h18 O19 => ?_)
      replace O19 : Hold B h18 [(AV.ptr o1 1 0 0, .pt 4 [iv a_.x1, iv a_.y1, iv a_.x2, iv a_.y2]), (AV.ptr o5 1 0 0, .pt 4 [iv b_.x1, iv b_.y1, iv b_.x2, iv b_.y2]), (AV.ptr o9 1 0 0, .pt 4 [iv 0, iv 0, iv 0, iv 0])] := O19
      refine sim_retL (resL_c (v := AV.agg [iv 0, iv 0, iv 0, iv 0]) (O19.ld 2 rfl true 4 0) (resL_v (v := iv 1) (resL_nil _))) ?_
      dsimp only [pack]
      exact sim_ret (release_plain (by rfl) _)
    · refine sim_let (v := AV.agg [iv a_.x1, iv a_.y1, iv a_.x2, iv a_.y2]) (O11.ld 0 rfl true 4 0) ?_
      refine sim_let (v := AV.agg [iv b_.x1, iv b_.y1, iv b_.x2, iv b_.y2]) (O11.ld 1 rfl true 4 0) ?_
      refine sim_callV2 (t := joinBox) he_impl_joinBoxes (snapD_nr _ a_ rfl) (snapD_nr _ b_ rfl) (fun c20 => ?_)
      refine sim_store O11 2 (cs' := [iv c20.x1, iv c20.y1, iv c20.x2, iv c20.y2]) rfl (by first | rfl | simp) (by simp) (by first | rfl | simp) (by first | rfl | simp [splice]) (fun h21 O22 => ?_)
      replace O22 : Hold B h21 [(AV.ptr o1 1 0 0, .pt 4 [iv a_.x1, iv a_.y1, iv a_.x2, iv a_.y2]), (AV.ptr o5 1 0 0, .pt 4 [iv b_.x1, iv b_.y1, iv b_.x2, iv b_.y2]), (AV.ptr o9 1 0 0, .pt 4 [iv c20.x1, iv c20.y1, iv c20.x2, iv c20.y2])] := O22
      refine sim_retL (resL_c (v := AV.agg [iv c20.x1, iv c20.y1, iv c20.x2, iv c20.y2]) (O22.ld 2 rfl true 4 0) (resL_v (v := iv 0) (resL_nil _))) ?_
      dsimp only [pack]
      exact sim_ret (release_plain (by rfl) _)
theorem tt_impl_JoinBoxes : PureOK Try.prog n_impl_JoinBoxes (C2 (fun c : Box × Int => AV.tup [enc c.1, enc c.2]) t_impl_JoinBoxes) := pureC2 (Econs ok_impl_ValidBox (Econs ok_impl_joinBoxes E0)) mixed hb_impl_JoinBoxes fun a_ b_ => ts_impl_JoinBoxes _ (by simp [envL]) (by simp [envL]) a_ b_

def s0_spec_l02SameStroke (a_ : Stroke) (b_ : Stroke) : Int → Option (Sum Int (Sum Unit Bool)) := fun w4 =>
  bif decide (w4 < (((a_.points.getD []).length : Nat) : Int)) then
    obind (getI (a_.points.getD []) w4) fun a14 =>
    obind (getI (b_.points.getD []) w4) fun a18 =>
    bif !decide (a14 = a18) then
      some (.inr (.inr false))
    else
      some (.inl (wr (w4 + 1)))
  else
    some (.inr (.inl ()))
def t_spec_l02SameStroke (a_ : Stroke) (b_ : Stroke) : Option Bool :=
  bif !decide ((((a_.points.getD []).length : Nat) : Int) = (((b_.points.getD []).length : Nat) : Int)) then
    some false
  else
    obind (loopT (s0_spec_l02SameStroke a_ b_) 0) fun qq27 => match qq27 with
    | (.inl _) =>
        some true
    | (.inr q11) =>
        some q11
def tp_spec_l02SameStroke (a_p : Pt Stroke) (b_p : Pt Stroke) : Option Bool := obind a_p.get fun a_ => obind b_p.get fun b_ => t_spec_l02SameStroke a_ b_

theorem tl0_spec_l02SameStroke (env : Nat → Contract) {B : Base}  (a_ : Stroke) (a_p : Pt Stroke) (hp_a_ : a_p.get = some a_) (b_ : Stroke) (b_p : Pt Stroke) (hp_b_ : b_p.get = some b_)  {st : Int} {tm : TM} {h : Heap} (R : (fun (st : Int) tm h2 => match st with | w4 => tm = [AV.fptr (Row.w Stroke) (a_p.tab.map Row.cells) a_p.i 0, AV.fptr (Row.w Stroke) (b_p.tab.map Row.cells) b_p.i 0, und, und, AV.top, iv w4, AV.fptr (Row.w Stroke) (a_p.tab.map Row.cells) a_p.i 0, AV.fptr (Row.w Stroke) (a_p.tab.map Row.cells) a_p.i 0, AV.fptr (Row.w Stroke) (a_p.tab.map Row.cells) a_p.i 0, Sl.enc a_.points, iv (((a_.points.getD []).length : Nat) : Int), AV.fptr (Row.w Stroke) (b_p.tab.map Row.cells) b_p.i 0, AV.fptr (Row.w Stroke) (b_p.tab.map Row.cells) b_p.i 0, AV.fptr (Row.w Stroke) (b_p.tab.map Row.cells) b_p.i 0, Sl.enc b_.points, iv (((b_.points.getD []).length : Nat) : Int), bv (!decide ((((a_.points.getD []).length : Nat) : Int) = (((b_.points.getD []).length : Nat) : Int))), AV.top, AV.top, AV.top, AV.top, AV.top, AV.top, AV.top, AV.top, AV.top, AV.top, AV.top, AV.top, AV.top, AV.top, AV.top, AV.top, AV.top, AV.top, AV.top, AV.top, AV.top, AV.top, AV.top, AV.top] ∧ Hold B h2 []) st tm h) : Sim (loopP hm0_spec_l02SameStroke xm0_spec_l02SameStroke (lb0_spec_l02SameStroke env) tm h) (loopT (s0_spec_l02SameStroke a_ b_) st) (fun (q : Sum Unit Bool) (r : Res) => match q with | .inl _ => ∃ (q8 : Int) (z7 : AV) (h5 : Heap), r = (.exit 0, [AV.fptr (Row.w Stroke) (a_p.tab.map Row.cells) a_p.i 0, AV.fptr (Row.w Stroke) (b_p.tab.map Row.cells) b_p.i 0, und, und, z7, iv q8, AV.fptr (Row.w Stroke) (a_p.tab.map Row.cells) a_p.i 0, AV.fptr (Row.w Stroke) (a_p.tab.map Row.cells) a_p.i 0, AV.fptr (Row.w Stroke) (a_p.tab.map Row.cells) a_p.i 0, Sl.enc a_.points, iv (((a_.points.getD []).length : Nat) : Int), AV.fptr (Row.w Stroke) (b_p.tab.map Row.cells) b_p.i 0, AV.fptr (Row.w Stroke) (b_p.tab.map Row.cells) b_p.i 0, AV.fptr (Row.w Stroke) (b_p.tab.map Row.cells) b_p.i 0, Sl.enc b_.points, iv (((b_.points.getD []).length : Nat) : Int), bv (!decide ((((a_.points.getD []).length : Nat) : Int) = (((b_.points.getD []).length : Nat) : Int))), AV.top, AV.top, AV.top, AV.top, AV.top, AV.top, AV.top, AV.top, AV.top, AV.top, AV.top, AV.top, AV.top, AV.top, AV.top, AV.top, AV.top, AV.top, AV.top, AV.top, AV.top, AV.top, AV.top, AV.top], h5) ∧ Hold B h5 [] | .inr q11 => ∃ (q12 : Int) (h9 : Heap), r = (.ret, [AV.fptr (Row.w Stroke) (a_p.tab.map Row.cells) a_p.i 0, AV.fptr (Row.w Stroke) (b_p.tab.map Row.cells) b_p.i 0, und, und, bv q11, iv q12, AV.fptr (Row.w Stroke) (a_p.tab.map Row.cells) a_p.i 0, AV.fptr (Row.w Stroke) (a_p.tab.map Row.cells) a_p.i 0, AV.fptr (Row.w Stroke) (a_p.tab.map Row.cells) a_p.i 0, Sl.enc a_.points, iv (((a_.points.getD []).length : Nat) : Int), AV.fptr (Row.w Stroke) (b_p.tab.map Row.cells) b_p.i 0, AV.fptr (Row.w Stroke) (b_p.tab.map Row.cells) b_p.i 0, AV.fptr (Row.w Stroke) (b_p.tab.map Row.cells) b_p.i 0, Sl.enc b_.points, iv (((b_.points.getD []).length : Nat) : Int), bv (!decide ((((a_.points.getD []).length : Nat) : Int) = (((b_.points.getD []).length : Nat) : Int))), AV.top, AV.top, AV.top, AV.top, AV.top, AV.top, AV.top, AV.top, AV.top, AV.top, AV.top, AV.top, AV.top, AV.top, AV.top, AV.top, AV.top, AV.top, AV.top, AV.top, AV.top, AV.top, AV.top, AV.top], h9) ∧ Hold B h9 []) := by
  refine loop_sim (Rel := fun (st : Int) tm h2 => match st with | w4 => tm = [AV.fptr (Row.w Stroke) (a_p.tab.map Row.cells) a_p.i 0, AV.fptr (Row.w Stroke) (b_p.tab.map Row.cells) b_p.i 0, und, und, AV.top, iv w4, AV.fptr (Row.w Stroke) (a_p.tab.map Row.cells) a_p.i 0, AV.fptr (Row.w Stroke) (a_p.tab.map Row.cells) a_p.i 0, AV.fptr (Row.w Stroke) (a_p.tab.map Row.cells) a_p.i 0, Sl.enc a_.points, iv (((a_.points.getD []).length : Nat) : Int), AV.fptr (Row.w Stroke) (b_p.tab.map Row.cells) b_p.i 0, AV.fptr (Row.w Stroke) (b_p.tab.map Row.cells) b_p.i 0, AV.fptr (Row.w Stroke) (b_p.tab.map Row.cells) b_p.i 0, Sl.enc b_.points, iv (((b_.points.getD []).length : Nat) : Int), bv (!decide ((((a_.points.getD []).length : Nat) : Int) = (((b_.points.getD []).length : Nat) : Int))), AV.top, AV.top, AV.top, AV.top, AV.top, AV.top, AV.top, AV.top, AV.top, AV.top, AV.top, AV.top, AV.top, AV.top, AV.top, AV.top, AV.top, AV.top, AV.top, AV.top, AV.top, AV.top, AV.top, AV.top] ∧ Hold B h2 []) (fun w4 tm h2 R => ?_) R
  obtain ⟨rfl, O3⟩ := R
  rw [e_lb0_spec_l02SameStroke]
  unfold s0_spec_l02SameStroke
  dsimp only
  refine sim_let (v := AV.fptr (Row.w Stroke) (a_p.tab.map Row.cells) a_p.i 0) rfl ?_
  refine sim_let (v := AV.fptr (Row.w Stroke) (a_p.tab.map Row.cells) a_p.i 0) rfl ?_
  refine sim_let (v := Sl.enc a_.points) (ld_pt hp_a_ false 1 0) ?_
  refine sim_let (v := iv (((a_.points.getD []).length : Nat) : Int)) (Tab.enc h2 a_.points).len ?_
  refine sim_let (v := bv (decide (w4 < (((a_.points.getD []).length : Nat) : Int)))) (aBin_lss _ _) ?_
  refine sim_cond (fun c13 => ?_) (fun c13 => ?_)
  · refine sim_let (v := AV.fptr (Row.w Stroke) (a_p.tab.map Row.cells) a_p.i 0) rfl ?_
    refine sim_let (v := AV.fptr (Row.w Stroke) (a_p.tab.map Row.cells) a_p.i 0) rfl ?_
    refine sim_let (v := Sl.enc a_.points) (ld_pt hp_a_ false 1 0) ?_
    refine sim_get (Tab.enc h2 a_.points) (fun m15 a14 hi16 hm17 => ?_)
    refine sim_let (v := AV.agg [iv a14.x, iv a14.y, iv a14.t]) ((Tab.enc h2 a_.points).ld hm17 true 3 0) ?_
    refine sim_let (v := AV.fptr (Row.w Stroke) (b_p.tab.map Row.cells) b_p.i 0) rfl ?_
    refine sim_let (v := AV.fptr (Row.w Stroke) (b_p.tab.map Row.cells) b_p.i 0) rfl ?_
    refine sim_let (v := Sl.enc b_.points) (ld_pt hp_b_ false 1 0) ?_
    refine sim_get (Tab.enc h2 b_.points) (fun m19 a18 hi20 hm21 => ?_)
    refine sim_let (v := AV.agg [iv a18.x, iv a18.y, iv a18.t]) ((Tab.enc h2 b_.points).ld hm21 true 3 0) ?_
    refine sim_let (v := bv (!decide (a14 = a18))) (aCmp_Point a14 a18).2 ?_
    refine sim_cond (fun c22 => ?_) (fun c22 => ?_)
    · exact sim_ret ⟨nofun, _, _, rfl, O3⟩
    · refine sim_let (v := iv (wr (w4 + 1))) (aBin_add _ _) ?_
      exact sim_ret ⟨rfl, rfl, O3⟩
  · exact sim_ret ⟨nofun, _, _, _, rfl, O3⟩
theorem ts_spec_l02SameStroke (env : Nat → Contract)  (a_ : Stroke) (b_ : Stroke) {a_p : Pt Stroke} (hp_a_ : a_p.get = some a_) {b_p : Pt Stroke} (hp_b_ : b_p.get = some b_) : Sim (denFn Try.prog env n_spec_l02SameStroke [AV.fptr (Row.w Stroke) (a_p.tab.map Row.cells) a_p.i 0, AV.fptr (Row.w Stroke) (b_p.tab.map Row.cells) b_p.i 0] []) (t_spec_l02SameStroke a_ b_) fun c p => release p.2 depth p.1 = some ((fun c : Bool => enc c) c) := by
  have O := Hold.nil []
  generalize hB : (⟨[], []⟩ : Base) = B at O
  clear hB
  rw [e_spec_l02SameStroke]
  unfold t_spec_l02SameStroke
  refine sim_let (v := AV.fptr (Row.w Stroke) (a_p.tab.map Row.cells) a_p.i 0) rfl ?_
  refine sim_let (v := AV.fptr (Row.w Stroke) (a_p.tab.map Row.cells) a_p.i 0) rfl ?_
  refine sim_let (v := Sl.enc a_.points) (ld_pt hp_a_ false 1 0) ?_
  refine sim_let (v := iv (((a_.points.getD []).length : Nat) : Int)) (Tab.enc [] a_.points).len ?_
  refine sim_let (v := AV.fptr (Row.w Stroke) (b_p.tab.map Row.cells) b_p.i 0) rfl ?_
  refine sim_let (v := AV.fptr (Row.w Stroke) (b_p.tab.map Row.cells) b_p.i 0) rfl ?_
  refine sim_let (v := Sl.enc b_.points) (ld_pt hp_b_ false 1 0) ?_
  refine sim_let (v := iv (((b_.points.getD []).length : Nat) : Int)) (Tab.enc [] b_.points).len ?_
  refine sim_let (v := bv (!decide ((((a_.points.getD []).length : Nat) : Int) = (((b_.points.getD []).length : Nat) : Int)))) (aCmp_ne _ _) ?_
  refine sim_cond (fun c1 => ?_) (fun c1 => ?_)
  · exact sim_ret (release_plain (by rfl) _)
  · refine sim_bind ((tl0_spec_l02SameStroke env a_ a_p hp_a_ b_ b_p hp_b_) ⟨rfl, O⟩) (fun qq27 r hq => ?_)
    rcases qq27 with _ | q11
    · obtain ⟨q8, z7, h5, rfl, O6⟩ := hq
      rw [e_lk0x0_spec_l02SameStroke]
      exact sim_ret (release_plain (by rfl) _)
    · obtain ⟨q12, h9, rfl, O10⟩ := hq
      rw [e_lk0r_spec_l02SameStroke]
      exact sim_ret (release_plain (by rfl) _)
theorem tt_spec_l02SameStroke : PureOK Try.prog n_spec_l02SameStroke (C2 (fun c : Bool => enc c) tp_spec_l02SameStroke) := pureC2 E0 mixed hb_spec_l02SameStroke fun a_p b_p => sim_getP fun a_ hp_a_ => sim_getP fun b_ hp_b_ => ts_spec_l02SameStroke _  a_ b_ hp_a_ hp_b_

def s0_spec_l02Same (a_ : Ink) (b_ : Ink) : Int → Option (Sum Int (Sum Unit Bool)) := fun w4 =>
  bif decide (w4 < (((a_.strokes.getD []).length : Nat) : Int)) then
    obind (getI (a_.strokes.getD []) w4) fun a14 =>
    obind (getI (b_.strokes.getD []) w4) fun a18 =>
    obind (t_spec_l02SameStroke a14 a18) fun c22 =>
    bif !c22 then
      some (.inr (.inr false))
    else
      some (.inl (wr (w4 + 1)))
  else
    some (.inr (.inl ()))
def t_spec_l02Same (a_ : Ink) (b_ : Ink) : Option Bool :=
  bif !decide ((((a_.strokes.getD []).length : Nat) : Int) = (((b_.strokes.getD []).length : Nat) : Int)) then
    some false
  else
    obind (loopT (s0_spec_l02Same a_ b_) 0) fun qq28 => match qq28 with
    | (.inl _) =>
        some true
    | (.inr q11) =>
        some q11
def tp_spec_l02Same (a_p : Pt Ink) (b_p : Pt Ink) : Option Bool := obind a_p.get fun a_ => obind b_p.get fun b_ => t_spec_l02Same a_ b_

theorem tl0_spec_l02Same (env : Nat → Contract) {B : Base} (he_spec_l02SameStroke : env n_spec_l02SameStroke = .pure (C2 (fun c : Bool => enc c) tp_spec_l02SameStroke)) (a_ : Ink) (a_p : Pt Ink) (hp_a_ : a_p.get = some a_) (b_ : Ink) (b_p : Pt Ink) (hp_b_ : b_p.get = some b_)  {st : Int} {tm : TM} {h : Heap} (R : (fun (st : Int) tm h2 => match st with | w4 => tm = [AV.fptr (Row.w Ink) (a_p.tab.map Row.cells) a_p.i 0, AV.fptr (Row.w Ink) (b_p.tab.map Row.cells) b_p.i 0, und, und, AV.top, iv w4, AV.fptr (Row.w Ink) (a_p.tab.map Row.cells) a_p.i 0, AV.fptr (Row.w Ink) (a_p.tab.map Row.cells) a_p.i 0, AV.fptr (Row.w Ink) (a_p.tab.map Row.cells) a_p.i 0, Sl.enc a_.strokes, iv (((a_.strokes.getD []).length : Nat) : Int), AV.fptr (Row.w Ink) (b_p.tab.map Row.cells) b_p.i 0, AV.fptr (Row.w Ink) (b_p.tab.map Row.cells) b_p.i 0, AV.fptr (Row.w Ink) (b_p.tab.map Row.cells) b_p.i 0, Sl.enc b_.strokes, iv (((b_.strokes.getD []).length : Nat) : Int), bv (!decide ((((a_.strokes.getD []).length : Nat) : Int) = (((b_.strokes.getD []).length : Nat) : Int))), AV.top, AV.top, AV.top, AV.top, AV.top, AV.top, AV.top, AV.top, AV.top, AV.top, AV.top, AV.top, AV.top, AV.top, AV.top, AV.top, AV.top, AV.top, AV.top, AV.top, AV.top, AV.top, AV.top] ∧ Hold B h2 []) st tm h) : Sim (loopP hm0_spec_l02Same xm0_spec_l02Same (lb0_spec_l02Same env) tm h) (loopT (s0_spec_l02Same a_ b_) st) (fun (q : Sum Unit Bool) (r : Res) => match q with | .inl _ => ∃ (q8 : Int) (z7 : AV) (h5 : Heap), r = (.exit 0, [AV.fptr (Row.w Ink) (a_p.tab.map Row.cells) a_p.i 0, AV.fptr (Row.w Ink) (b_p.tab.map Row.cells) b_p.i 0, und, und, z7, iv q8, AV.fptr (Row.w Ink) (a_p.tab.map Row.cells) a_p.i 0, AV.fptr (Row.w Ink) (a_p.tab.map Row.cells) a_p.i 0, AV.fptr (Row.w Ink) (a_p.tab.map Row.cells) a_p.i 0, Sl.enc a_.strokes, iv (((a_.strokes.getD []).length : Nat) : Int), AV.fptr (Row.w Ink) (b_p.tab.map Row.cells) b_p.i 0, AV.fptr (Row.w Ink) (b_p.tab.map Row.cells) b_p.i 0, AV.fptr (Row.w Ink) (b_p.tab.map Row.cells) b_p.i 0, Sl.enc b_.strokes, iv (((b_.strokes.getD []).length : Nat) : Int), bv (!decide ((((a_.strokes.getD []).length : Nat) : Int) = (((b_.strokes.getD []).length : Nat) : Int))), AV.top, AV.top, AV.top, AV.top, AV.top, AV.top, AV.top, AV.top, AV.top, AV.top, AV.top, AV.top, AV.top, AV.top, AV.top, AV.top, AV.top, AV.top, AV.top, AV.top, AV.top, AV.top, AV.top], h5) ∧ Hold B h5 [] | .inr q11 => ∃ (q12 : Int) (h9 : Heap), r = (.ret, [AV.fptr (Row.w Ink) (a_p.tab.map Row.cells) a_p.i 0, AV.fptr (Row.w Ink) (b_p.tab.map Row.cells) b_p.i 0, und, und, bv q11, iv q12, AV.fptr (Row.w Ink) (a_p.tab.map Row.cells) a_p.i 0, AV.fptr (Row.w Ink) (a_p.tab.map Row.cells) a_p.i 0, AV.fptr (Row.w Ink) (a_p.tab.map Row.cells) a_p.i 0, Sl.enc a_.strokes, iv (((a_.strokes.getD []).length : Nat) : Int), AV.fptr (Row.w Ink) (b_p.tab.map Row.cells) b_p.i 0, AV.fptr (Row.w Ink) (b_p.tab.map Row.cells) b_p.i 0, AV.fptr (Row.w Ink) (b_p.tab.map Row.cells) b_p.i 0, Sl.enc b_.strokes, iv (((b_.strokes.getD []).length : Nat) : Int), bv (!decide ((((a_.strokes.getD []).length : Nat) : Int) = (((b_.strokes.getD []).length : Nat) : Int))), AV.top, AV.top, AV.top, AV.top, AV.top, AV.top, AV.top, AV.top, AV.top, AV.top, AV.top, AV.top, AV.top, AV.top, AV.top, AV.top, AV.top, AV.top, AV.top, AV.top, AV.top, AV.top, AV.top], h9) ∧ Hold B h9 []) := by
  refine loop_sim (Rel := fun (st : Int) tm h2 => match st with | w4 => tm = [AV.fptr (Row.w Ink) (a_p.tab.map Row.cells) a_p.i 0, AV.fptr (Row.w Ink) (b_p.tab.map Row.cells) b_p.i 0, und, und, AV.top, iv w4, AV.fptr (Row.w Ink) (a_p.tab.map Row.cells) a_p.i 0, AV.fptr (Row.w Ink) (a_p.tab.map Row.cells) a_p.i 0, AV.fptr (Row.w Ink) (a_p.tab.map Row.cells) a_p.i 0, Sl.enc a_.strokes, iv (((a_.strokes.getD []).length : Nat) : Int), AV.fptr (Row.w Ink) (b_p.tab.map Row.cells) b_p.i 0, AV.fptr (Row.w Ink) (b_p.tab.map Row.cells) b_p.i 0, AV.fptr (Row.w Ink) (b_p.tab.map Row.cells) b_p.i 0, Sl.enc b_.strokes, iv (((b_.strokes.getD []).length : Nat) : Int), bv (!decide ((((a_.strokes.getD []).length : Nat) : Int) = (((b_.strokes.getD []).length : Nat) : Int))), AV.top, AV.top, AV.top, AV.top, AV.top, AV.top, AV.top, AV.top, AV.top, AV.top, AV.top, AV.top, AV.top, AV.top, AV.top, AV.top, AV.top, AV.top, AV.top, AV.top, AV.top, AV.top, AV.top] ∧ Hold B h2 []) (fun w4 tm h2 R => ?_) R
  obtain ⟨rfl, O3⟩ := R
  rw [e_lb0_spec_l02Same]
  unfold s0_spec_l02Same
  dsimp only
  refine sim_let (v := AV.fptr (Row.w Ink) (a_p.tab.map Row.cells) a_p.i 0) rfl ?_
  refine sim_let (v := AV.fptr (Row.w Ink) (a_p.tab.map Row.cells) a_p.i 0) rfl ?_
  refine sim_let (v := Sl.enc a_.strokes) (ld_pt hp_a_ false 1 0) ?_
  refine sim_let (v := iv (((a_.strokes.getD []).length : Nat) : Int)) (Tab.enc h2 a_.strokes).len ?_
  refine sim_let (v := bv (decide (w4 < (((a_.strokes.getD []).length : Nat) : Int)))) (aBin_lss _ _) ?_
  refine sim_cond (fun c13 => ?_) (fun c13 => ?_)
  · refine sim_let (v := AV.fptr (Row.w Ink) (a_p.tab.map Row.cells) a_p.i 0) rfl ?_
    refine sim_let (v := AV.fptr (Row.w Ink) (a_p.tab.map Row.cells) a_p.i 0) rfl ?_
    refine sim_let (v := Sl.enc a_.strokes) (ld_pt hp_a_ false 1 0) ?_
    refine sim_get (Tab.enc h2 a_.strokes) (fun m15 a14 hi16 hm17 => ?_)
    refine sim_let (v := AV.fptr (Row.w Ink) (b_p.tab.map Row.cells) b_p.i 0) rfl ?_
    refine sim_let (v := AV.fptr (Row.w Ink) (b_p.tab.map Row.cells) b_p.i 0) rfl ?_
    refine sim_let (v := Sl.enc b_.strokes) (ld_pt hp_b_ false 1 0) ?_
    refine sim_get (Tab.enc h2 b_.strokes) (fun m19 a18 hi20 hm21 => ?_)
    refine sim_eqO (y' := tp_spec_l02SameStroke ⟨a_.strokes.getD [], m15⟩ ⟨b_.strokes.getD [], m19⟩) (by simp only [tp_spec_l02SameStroke, get_ptAt hm17, get_ptAt hm21, obind_sm]) ?_
    refine sim_callQ2 he_spec_l02SameStroke (snapD_elpR _ a_.strokes hm17) (snapD_elpR _ b_.strokes hm21) (fun c22 => ?_)
    refine sim_let2 (hand_plain (by rfl) _ _) ?_
    refine sim_let (v := bv (!c22)) (aUn_not _) ?_
    refine sim_cond (fun c23 => ?_) (fun c23 => ?_)
    · exact sim_ret ⟨nofun, _, _, rfl, O3⟩
    · refine sim_let (v := iv (wr (w4 + 1))) (aBin_add _ _) ?_
      exact sim_ret ⟨rfl, rfl, O3⟩
  · exact sim_ret ⟨nofun, _, _, _, rfl, O3⟩
theorem ts_spec_l02Same (env : Nat → Contract) (he_spec_l02SameStroke : env n_spec_l02SameStroke = .pure (C2 (fun c : Bool => enc c) tp_spec_l02SameStroke)) (a_ : Ink) (b_ : Ink) {a_p : Pt Ink} (hp_a_ : a_p.get = some a_) {b_p : Pt Ink} (hp_b_ : b_p.get = some b_) : Sim (denFn Try.prog env n_spec_l02Same [AV.fptr (Row.w Ink) (a_p.tab.map Row.cells) a_p.i 0, AV.fptr (Row.w Ink) (b_p.tab.map Row.cells) b_p.i 0] []) (t_spec_l02Same a_ b_) fun c p => release p.2 depth p.1 = some ((fun c : Bool => enc c) c) := by
  have O := Hold.nil []
  generalize hB : (⟨[], []⟩ : Base) = B at O
  clear hB
  rw [e_spec_l02Same]
  unfold t_spec_l02Same
  refine sim_let (v := AV.fptr (Row.w Ink) (a_p.tab.map Row.cells) a_p.i 0) rfl ?_
  refine sim_let (v := AV.fptr (Row.w Ink) (a_p.tab.map Row.cells) a_p.i 0) rfl ?_
  refine sim_let (v := Sl.enc a_.strokes) (ld_pt hp_a_ false 1 0) ?_
  refine sim_let (v := iv (((a_.strokes.getD []).length : Nat) : Int)) (Tab.enc [] a_.strokes).len ?_
  refine sim_let (v := AV.fptr (Row.w Ink) (b_p.tab.map Row.cells) b_p.i 0) rfl ?_
  refine sim_let (v := AV.fptr (Row.w Ink) (b_p.tab.map Row.cells) b_p.i 0) rfl ?_
  refine sim_let (v := Sl.enc b_.strokes) (ld_pt hp_b_ false 1 0) ?_
  refine sim_let (v := iv (((b_.strokes.getD []).length : Nat) : Int)) (Tab.enc [] b_.strokes).len ?_
  refine sim_let (v := bv (!decide ((((a_.strokes.getD []).length : Nat) : Int) = (((b_.strokes.getD []).length : Nat) : Int)))) (aCmp_ne _ _) ?_
  refine sim_cond (fun c1 => ?_) (fun c1 => ?_)
  · exact sim_ret (release_plain (by rfl) _)
  · refine sim_bind ((tl0_spec_l02Same env he_spec_l02SameStroke a_ a_p hp_a_ b_ b_p hp_b_) ⟨rfl, O⟩) (fun qq28 r hq => ?_)
    rcases qq28 with _ | q11
    · obtain ⟨q8, z7, h5, rfl, O6⟩ := hq
      rw [e_lk0x0_spec_l02Same]
      exact sim_ret (release_plain (by rfl) _)
    · obtain ⟨q12, h9, rfl, O10⟩ := hq
      rw [e_lk0r_spec_l02Same]
      exact sim_ret (release_plain (by rfl) _)
theorem tt_spec_l02Same : PureOK Try.prog n_spec_l02Same (C2 (fun c : Bool => enc c) tp_spec_l02Same) := pureC2 (Econs tt_spec_l02SameStroke E0) mixed hb_spec_l02Same fun a_p b_p => sim_getP fun a_ hp_a_ => sim_getP fun b_ hp_b_ => ts_spec_l02Same _ (by simp [envL]) a_ b_ hp_a_ hp_b_

def t_spec_SameInk (a_ : Ink) (b_ : Ink) : Option Bool :=
  obind (t_spec_l02Same a_ b_) fun c9 =>
  some c9

theorem ts_spec_SameInk (env : Nat → Contract) (he_spec_l02Same : env n_spec_l02Same = .pure (C2 (fun c : Bool => enc c) tp_spec_l02Same)) (a_ : Ink) (b_ : Ink) : Sim (denFn Try.prog env n_spec_SameInk [AV.agg [Sl.enc a_.strokes], AV.agg [Sl.enc b_.strokes]] []) (t_spec_SameInk a_ b_) fun c p => release p.2 depth p.1 = some ((fun c : Bool => enc c) c) := by
  have O := Hold.nil []
  generalize hB : (⟨[], []⟩ : Base) = B at O
  clear hB
  rw [e_spec_SameInk]
  unfold t_spec_SameInk
  refine sim_box O (cs := [Sl.enc a_.strokes]) (by first | rfl | simp) (fun o1 h2 O3 => ?_)
  replace O3 : Hold B h2 [(AV.ptr o1 1 0 0, .pt 1 [Sl.enc a_.strokes])] := O3
  refine sim_box O3 (cs := [Sl.enc b_.strokes]) (by first | rfl | simp) (fun o5 h6 O7 => ?_)
  replace O7 : Hold B h6 [(AV.ptr o1 1 0 0, .pt 1 [Sl.enc a_.strokes]), (AV.ptr o5 1 0 0, .pt 1 [Sl.enc b_.strokes])] := O7
  refine sim_eqO (y' := tp_spec_l02Same ⟨[a_], 0⟩ ⟨[b_], 0⟩) (by simp only [tp_spec_l02Same, get_pt1, obind_sm]) ?_
  refine sim_call2 he_spec_l02Same (O7.snapRn 0 rfl a_ rfl rfl) (O7.snapRn 1 rfl b_ rfl rfl) (fun c9 => ?_)
  refine sim_let2 (hand_plain (by rfl) _ _) ?_
  exact sim_ret (release_plain (by rfl) _)
theorem tt_spec_SameInk : PureOK Try.prog n_spec_SameInk (C2 (fun c : Bool => enc c) t_spec_SameInk) := pureC2 (Econs tt_spec_l02Same E0) mixed hb_spec_SameInk fun a_ b_ => ts_spec_SameInk _ (by simp [envL]) a_ b_

def t_laws_f6stroke (a_ : Stroke) (b_ : Stroke) : Option Bool :=
  obind (t_spec_SameInk (⟨(some ([a_] : List Stroke))⟩ : Ink) (⟨(some ([b_] : List Stroke))⟩ : Ink)) fun c17 =>
  some c17

theorem ts_laws_f6stroke (env : Nat → Contract) (he_spec_SameInk : env n_spec_SameInk = .pure (C2 (fun c : Bool => enc c) t_spec_SameInk)) (a_ : Stroke) (b_ : Stroke) : Sim (denFn Try.prog env n_laws_f6stroke [AV.agg [Sl.enc a_.points], AV.agg [Sl.enc b_.points]] []) (t_laws_f6stroke a_ b_) fun c p => release p.2 depth p.1 = some ((fun c : Bool => enc c) c) := by
  have O := Hold.nil []
  generalize hB : (⟨[], []⟩ : Base) = B at O
  clear hB
  rw [e_laws_f6stroke]
  unfold t_laws_f6stroke
  refine sim_box O (cs := [Sl.enc a_.points]) (by first | rfl | simp) (fun o1 h2 O3 => ?_)
  replace O3 : Hold B h2 [(AV.ptr o1 1 0 0, .pt 1 [Sl.enc a_.points])] := O3
  refine sim_box O3 (cs := [Sl.enc b_.points]) (by first | rfl | simp) (fun o5 h6 O7 => ?_)
  replace O7 : Hold B h6 [(AV.ptr o1 1 0 0, .pt 1 [Sl.enc a_.points]), (AV.ptr o5 1 0 0, .pt 1 [Sl.enc b_.points])] := O7
  refine sim_let (v := AV.agg [Sl.enc a_.points]) (O7.ld 0 rfl true 1 0) ?_
  refine sim_build (A := Stroke) O7 ([a_] : List Stroke) rfl (by first | rfl | simp [aFillRows, zrows]) rfl (fun x9 h10 O11 => ?_)
  replace O11 : Hold B h10 [(AV.ptr o1 1 0 0, .pt 1 [Sl.enc a_.points]), (AV.ptr o5 1 0 0, .pt 1 [Sl.enc b_.points]), (x9, obS ((some ([a_] : List Stroke)) : Sl Stroke))] := O11
  refine sim_let (v := AV.agg [x9]) (by first | rfl | simp [aBuild, aFill, splice, (O11.one (A := Stroke) (s := (some ([a_] : List Stroke))) 2 rfl).1, (O11.one (A := Stroke) (s := (some ([a_] : List Stroke))) 2 rfl).2]) ?_
  refine sim_let (v := AV.agg [Sl.enc b_.points]) (O11.ld 1 rfl true 1 0) ?_
  refine sim_build (A := Stroke) O11 ([b_] : List Stroke) rfl (by first | rfl | simp [aFillRows, zrows]) rfl (fun x13 h14 O15 => ?_)
  replace O15 : Hold B h14 [(AV.ptr o1 1 0 0, .pt 1 [Sl.enc a_.points]), (AV.ptr o5 1 0 0, .pt 1 [Sl.enc b_.points]), (x9, obS ((some ([a_] : List Stroke)) : Sl Stroke)), (x13, obS ((some ([b_] : List Stroke)) : Sl Stroke))] := O15
  refine sim_let (v := AV.agg [x13]) (by first | rfl | simp [aBuild, aFill, splice, (O15.one (A := Stroke) (s := (some ([b_] : List Stroke))) 3 rfl).1, (O15.one (A := Stroke) (s := (some ([b_] : List Stroke))) 3 rfl).2]) ?_
  refine sim_call2 he_spec_SameInk (snapD_own h14 (⟨(some ([a_] : List Stroke))⟩ : Ink) rfl (by simp [omap, O15.snap7 (A := Stroke) (s := (some ([a_] : List Stroke))) 2 rfl])) (snapD_own h14 (⟨(some ([b_] : List Stroke))⟩ : Ink) rfl (by simp [omap, O15.snap7 (A := Stroke) (s := (some ([b_] : List Stroke))) 3 rfl])) (fun c17 => ?_)
  refine sim_let2 (hand_plain (by rfl) _ _) ?_
  exact sim_ret (release_plain (by rfl) _)
theorem tt_laws_f6stroke : PureOK Try.prog n_laws_f6stroke (C2 (fun c : Bool => enc c) t_laws_f6stroke) := pureC2 (Econs tt_spec_SameInk E0) mixed hb_laws_f6stroke fun a_ b_ => ts_laws_f6stroke _ (by simp [envL]) a_ b_

def t_spec_DrawThinStroke (code_ : Sl UInt8) : Option (Stroke × Int) :=
  obind (t_spec_l05Stroke (⟨code_, 0, 0⟩ : l00Src)) fun c9 =>
  obind (t_spec_l00Src_pick c9.2 40) fun c23 =>
  obind (t_spec_l00Src_one c23.2 10) fun c29 =>
  bif c29.1 then
    obind (t_spec_l00Src_among c29.2 (some ([(-1), 0, 1000, 1001] : List Int))) fun c40 =>
    some (c9.1, c40.1)
  else
    some (c9.1, c23.1)

theorem ts_spec_DrawThinStroke (env : Nat → Contract) (he_spec_l00From : env n_spec_l00From = .pure (C1 fromA (fun q : Sl UInt8 => some q))) (he_spec_l00Src_among : env n_spec_l00Src_among = .gen (denFn Try.prog ev_spec_l00Src_among n_spec_l00Src_among)) (he_spec_l00Src_one : env n_spec_l00Src_one = .gen (denFn Try.prog ev_spec_l00Src_one n_spec_l00Src_one)) (he_spec_l00Src_pick : env n_spec_l00Src_pick = .gen (denFn Try.prog ev_spec_l00Src_pick n_spec_l00Src_pick)) (he_spec_l05Stroke : env n_spec_l05Stroke = .gen (denFn Try.prog ev_spec_l05Stroke n_spec_l05Stroke)) (code_ : Sl UInt8) : Sim (denFn Try.prog env n_spec_DrawThinStroke [Sl.enc code_] []) (t_spec_DrawThinStroke code_) fun c p => release p.2 depth p.1 = some ((fun c : Stroke × Int => AV.tup [AV.agg [rS c.1.points], enc c.2]) c) := by
  have O := Hold.nil []
  generalize hB : (⟨[], []⟩ : Base) = B at O
  clear hB
  rw [e_spec_DrawThinStroke]
  unfold t_spec_DrawThinStroke
  refine sim_box O (cs := [nilS]) (by first | rfl | simp) (fun o1 h2 O3 => ?_)
  replace O3 : Hold B h2 [(AV.ptr o1 1 0 0, .pt 1 [nilS])] := O3
  refine sim_src O3 he_spec_l00From (snapD_enc _ _) (by first | rfl | exact noRef_enc _) (fun o5 h6 O7 => ?_)
  replace O7 : Hold B h6 [(AV.ptr o1 1 0 0, .pt 1 [nilS]), (AV.ptr o5 1 0 0, .pt 3 [Sl.enc code_, iv 0, AV.sc (.int .u64 0)])] := O7
  refine sim_gen he_spec_l05Stroke (tg_spec_l05Stroke (⟨code_, 0, 0⟩ : l00Src) (O7.start (i := 1) rfl rfl)) (fun c9 v10 h11 hq12 => ?_)
  obtain ⟨x15, e_v10, O13⟩ := hq12
  dsimp only at e_v10
  subst v10
  have O14 : Hold B h11 [(AV.ptr o1 1 0 0, .pt 1 [nilS]), (AV.ptr o5 1 0 0, .pt 3 [Sl.enc c9.2.code, iv c9.2.pos, AV.sc (.int .u64 c9.2.seed)]), (x15, obS (c9.1.points : Sl Point))] := O7.merge (i := 1) rfl rfl O13
  refine sim_box O14 (cs := [nilS]) (by first | rfl | simp) (fun o17 h18 O19 => ?_)
  replace O19 : Hold B h18 [(AV.ptr o1 1 0 0, .pt 1 [nilS]), (AV.ptr o5 1 0 0, .pt 3 [Sl.enc c9.2.code, iv c9.2.pos, AV.sc (.int .u64 c9.2.seed)]), (x15, obS (c9.1.points : Sl Point)), (AV.ptr o17 1 0 0, .pt 1 [nilS])] := O19
  refine sim_store O19 3 (cs' := [x15]) rfl (by first | rfl | simp [(O19.one (A := Point) (s := c9.1.points) 2 rfl).1, (O19.one (A := Point) (s := c9.1.points) 2 rfl).2]) (by simp) (by first | rfl | simp [(O19.one (A := Point) (s := c9.1.points) 2 rfl).1, (O19.one (A := Point) (s := c9.1.points) 2 rfl).2]) (by first | rfl | simp [splice, (O19.one (A := Point) (s := c9.1.points) 2 rfl).1, (O19.one (A := Point) (s := c9.1.points) 2 rfl).2]) (fun h21 O22 => ?_)
  replace O22 : Hold B h21 [(AV.ptr o1 1 0 0, .pt 1 [nilS]), (AV.ptr o5 1 0 0, .pt 3 [Sl.enc c9.2.code, iv c9.2.pos, AV.sc (.int .u64 c9.2.seed)]), (x15, obS (c9.1.points : Sl Point)), (AV.ptr o17 1 0 0, .pt 1 [x15])] := O22
  refine sim_gen he_spec_l00Src_pick (tg_spec_l00Src_pick c9.2 40 (O22.start (i := 1) rfl rfl)) (fun c23 v24 h25 hq26 => ?_)
  obtain ⟨e_v24, O27⟩ := hq26
  dsimp only at e_v24
  subst v24
  have O28 : Hold B h25 [(AV.ptr o1 1 0 0, .pt 1 [nilS]), (AV.ptr o5 1 0 0, .pt 3 [Sl.enc c23.2.code, iv c23.2.pos, AV.sc (.int .u64 c23.2.seed)]), (x15, obS (c9.1.points : Sl Point)), (AV.ptr o17 1 0 0, .pt 1 [x15])] := O22.merge (i := 1) rfl rfl O27
  refine sim_gen he_spec_l00Src_one (tg_spec_l00Src_one c23.2 10 (O28.start (i := 1) rfl rfl)) (fun c29 v30 h31 hq32 => ?_)
  obtain ⟨e_v30, O33⟩ := hq32
  dsimp only at e_v30
  subst v30
  have O34 : Hold B h31 [(AV.ptr o1 1 0 0, .pt 1 [nilS]), (AV.ptr o5 1 0 0, .pt 3 [Sl.enc c29.2.code, iv c29.2.pos, AV.sc (.int .u64 c29.2.seed)]), (x15, obS (c9.1.points : Sl Point)), (AV.ptr o17 1 0 0, .pt 1 [x15])] := O28.merge (i := 1) rfl rfl O33
  refine sim_cond (fun c35 => ?_) (fun c35 => ?_)
  · refine sim_build (A := Int) O34 ([(-1), 0, 1000, 1001] : List Int) rfl (by first | rfl | simp [aFillRows, zrows]) rfl (fun x36 h37 O38 => ?_)
    replace O38 : Hold B h37 [(AV.ptr o1 1 0 0, .pt 1 [nilS]), (AV.ptr o5 1 0 0, .pt 3 [Sl.enc c29.2.code, iv c29.2.pos, AV.sc (.int .u64 c29.2.seed)]), (x15, obS (c9.1.points : Sl Point)), (AV.ptr o17 1 0 0, .pt 1 [x15]), (x36, obS ((some ([(-1), 0, 1000, 1001] : List Int)) : Sl Int))] := O38
    refine sim_gen he_spec_l00Src_among (tg_spec_l00Src_among c29.2 (some ([(-1), 0, 1000, 1001] : List Int)) (O38.tabK (A := Int) (s := (some ([(-1), 0, 1000, 1001] : List Int))) 4 1 rfl rfl rfl (by decide)) (O38.start (i := 1) rfl rfl)) (fun c40 v41 h42 hq43 => ?_)
    obtain ⟨e_v41, O44⟩ := hq43
    dsimp only at e_v41
    subst v41
    have O45 : Hold B h42 [(AV.ptr o1 1 0 0, .pt 1 [nilS]), (AV.ptr o5 1 0 0, .pt 3 [Sl.enc c40.2.code, iv c40.2.pos, AV.sc (.int .u64 c40.2.seed)]), (x15, obS (c9.1.points : Sl Point)), (AV.ptr o17 1 0 0, .pt 1 [x15]), (x36, obS ((some ([(-1), 0, 1000, 1001] : List Int)) : Sl Int))] := O38.merge (i := 1) rfl rfl O44
    refine sim_let (v := AV.agg [x15]) (O45.ld 3 rfl true 1 0) ?_
    refine sim_store O45 0 (cs' := [x15]) rfl (by first | rfl | simp [(O45.one (A := Point) (s := c9.1.points) 2 rfl).1, (O45.one (A := Point) (s := c9.1.points) 2 rfl).2]) (by simp) (by first | rfl | simp [(O45.one (A := Point) (s := c9.1.points) 2 rfl).1, (O45.one (A := Point) (s := c9.1.points) 2 rfl).2]) (by first | rfl | simp [splice, (O45.one (A := Point) (s := c9.1.points) 2 rfl).1, (O45.one (A := Point) (s := c9.1.points) 2 rfl).2]) (fun h46 O47 => ?_)
    replace O47 : Hold B h46 [(AV.ptr o1 1 0 0, .pt 1 [x15]), (AV.ptr o5 1 0 0, .pt 3 [Sl.enc c40.2.code, iv c40.2.pos, AV.sc (.int .u64 c40.2.seed)]), (x15, obS (c9.1.points : Sl Point)), (AV.ptr o17 1 0 0, .pt 1 [x15]), (x36, obS ((some ([(-1), 0, 1000, 1001] : List Int)) : Sl Int))] := O47
    refine sim_retL (resL_c (v := AV.agg [x15]) (O47.ld 0 rfl true 1 0) (resL_v (v := iv c40.1) (resL_nil _))) ?_
    dsimp only [pack]
    have O48 : Hold B h46 [(x15, obS (c9.1.points : Sl Point))] := O47.sel [2] (by decide) rfl
    exact sim_ret (release_of (by simp only [ids_tup, ids_aggD, ids_agg, ids_iv, ids_bv, ids_sv, ids_bt, ids_nilS, ids_enc, O48.idsD (A := Point) (s := c9.1.points) 0 rfl, List.map_append, List.map_nil, List.flatMap_cons, List.flatMap_nil, List.append_nil, List.nil_append]; simpa only [List.flatMap_cons, List.flatMap_nil, List.append_nil, List.nil_append] using O48.nd2) (by simp only [rel_tup, rel_aggD, rel_agg, rel_iv, rel_bv, rel_sv, rel_bt, rel_nilS, rel_enc, O48.relD (A := Point) (s := c9.1.points) 0 rfl, omapc, omapn, obind_sm] <;> rfl))
  · refine sim_let (v := AV.agg [x15]) (O34.ld 3 rfl true 1 0) ?_
    refine sim_store O34 0 (cs' := [x15]) rfl (by first | rfl | simp [(O34.one (A := Point) (s := c9.1.points) 2 rfl).1, (O34.one (A := Point) (s := c9.1.points) 2 rfl).2]) (by simp) (by first | rfl | simp [(O34.one (A := Point) (s := c9.1.points) 2 rfl).1, (O34.one (A := Point) (s := c9.1.points) 2 rfl).2]) (by first | rfl | simp [splice, (O34.one (A := Point) (s := c9.1.points) 2 rfl).1, (O34.one (A := Point) (s := c9.1.points) 2 rfl).2]) (fun h49 O50 => ?_)
    replace O50 : Hold B h49 [(AV.ptr o1 1 0 0, .pt 1 [x15]), (AV.ptr o5 1 0 0, .pt 3 [Sl.enc c29.2.code, iv c29.2.pos, AV.sc (.int .u64 c29.2.seed)]), (x15, obS (c9.1.points : Sl Point)), (AV.ptr o17 1 0 0, .pt 1 [x15])] := O50
    refine sim_retL (resL_c (v := AV.agg [x15]) (O50.ld 0 rfl true 1 0) (resL_v (v := iv c23.1) (resL_nil _))) ?_
    dsimp only [pack]
    have O51 : Hold B h49 [(x15, obS (c9.1.points : Sl Point))] := O50.sel [2] (by decide) rfl
    exact sim_ret (release_of (by simp only [ids_tup, ids_aggD, ids_agg, ids_iv, ids_bv, ids_sv, ids_bt, ids_nilS, ids_enc, O51.idsD (A := Point) (s := c9.1.points) 0 rfl, List.map_append, List.map_nil, List.flatMap_cons, List.flatMap_nil, List.append_nil, List.nil_append]; simpa only [List.flatMap_cons, List.flatMap_nil, List.append_nil, List.nil_append] using O51.nd2) (by simp only [rel_tup, rel_aggD, rel_agg, rel_iv, rel_bv, rel_sv, rel_bt, rel_nilS, rel_enc, O51.relD (A := Point) (s := c9.1.points) 0 rfl, omapc, omapn, obind_sm] <;> rfl))
theorem tt_spec_DrawThinStroke : PureOK Try.prog n_spec_DrawThinStroke (C1 (fun c : Stroke × Int => AV.tup [AV.agg [rS c.1.points], enc c.2]) t_spec_DrawThinStroke) := pureC1 (Econs tt_spec_l00From (EconsG (gen_of_den eo_spec_l00Src_among mixed hb_spec_l00Src_among) (EconsG (gen_of_den eo_spec_l00Src_one mixed hb_spec_l00Src_one) (EconsG (gen_of_den eo_spec_l00Src_pick mixed hb_spec_l00Src_pick) (EconsG (gen_of_den eo_spec_l05Stroke mixed hb_spec_l05Stroke) E0))))) mixed hb_spec_DrawThinStroke fun code_ => ts_spec_DrawThinStroke _ (by simp [envL]) (by simp [envL]) (by simp [envL]) (by simp [envL]) (by simp [envL]) code_

def s0_impl_ThinStroke (s_ : Stroke) (step_ : Int) : ((Sl Point) × Int) → Option (Sum ((Sl Point) × Int) (Sl Point)) := fun (w24, w27) =>
  bif decide (w27 < (((s_.points.getD []).length : Nat) : Int)) then
    obind (getI (s_.points.getD []) w27) fun a38 =>
    obind (bif decide (w27 = 0) then some false else (some (decide (w27 = wr ((((s_.points.getD []).length : Nat) : Int) - 1))))) fun c49 =>
    obind (bif (bif decide (w27 = 0) then true else c49) then some false else (obind (t_impl_lastOf (⟨w24⟩ : Stroke)) fun c56 => obind (t_impl_lengthOf c56 a38) fun c57 => some (decide ((wr (step_ * 16)) ≤ c57)))) fun c58 =>
    bif (bif (bif decide (w27 = 0) then true else c49) then true else c58) then
      obind (appO w24 ([a38] : List Point)) fun _ =>
      some (.inl ((appS w24 ([a38] : List Point)), wr (w27 + 1)))
    else
      some (.inl (w24, wr (w27 + 1)))
  else
    some (.inr w24)
def t_impl_ThinStroke (s_ : Stroke) (step_ : Int) : Option (Stroke × Int) :=
  obind (t_impl_ValidStroke s_) fun c9 =>
  bif !c9 then
    some ((⟨(none : Sl Point)⟩ : Stroke), 1)
  else
    obind (some (within step_ 0 1000)) fun c13 =>
    bif !c13 then
      some ((⟨(none : Sl Point)⟩ : Stroke), 2)
    else
      obind (loopT (s0_impl_ThinStroke s_ step_) ((none : Sl Point), 0)) fun q31 =>
      some ((⟨q31⟩ : Stroke), 0)

theorem tl0_impl_ThinStroke (env : Nat → Contract) {B : Base} (he_impl_ValidStroke : env n_impl_ValidStroke = .pure (C1 (fun c : Bool => enc c) t_impl_ValidStroke)) (he_impl_lastOf : env n_impl_lastOf = .pure (C1 (fun c : Point => enc c) t_impl_lastOf)) (he_impl_lengthOf : env n_impl_lengthOf = .pure (C2 (fun c : Int => enc c) t_impl_lengthOf)) (he_impl_within : env n_impl_within = .pure (T3 within)) (s_ : Stroke) (step_ : Int) (o1 : Nat) (o5 : Nat) (c9 : Bool) (c13 : Bool) (o17 : Nat)  {st : (Sl Point) × Int} {tm : TM} {h : Heap} (R : (fun (st : (Sl Point) × Int) tm h25 => match st with | (w24, w27) => ∃ z23, tm = [AV.agg [Sl.enc s_.points], iv step_, AV.ptr o1 1 0 0, und, AV.ptr o5 1 0 0, iv 0, AV.ptr o17 1 0 0, AV.top, AV.top, AV.agg [Sl.enc s_.points], bv c9, bv (!c9), und, iv step_, bv c13, bv (!c13), und, AV.ptr o1 1 0 0, Sl.enc s_.points, iv (((s_.points.getD []).length : Nat) : Int), iv w27, AV.top, AV.top, AV.top, AV.top, AV.top, AV.top, AV.top, AV.top, AV.top, AV.top, AV.top, AV.top, AV.top, AV.top, AV.top, AV.top, AV.top, AV.top, AV.top, AV.top, AV.top, AV.top, AV.top, AV.top, AV.top, AV.top, AV.top, AV.top, AV.top, AV.top, und] ∧ Hold B h25 [(AV.ptr o1 1 0 0, .pt 1 [Sl.enc s_.points]), (AV.ptr o5 1 0 0, .pt 1 [nilS]), (AV.ptr o17 1 0 0, .pt 1 [z23]), (z23, obS (w24 : Sl Point))]) st tm h) : Sim (loopP hm0_impl_ThinStroke xm0_impl_ThinStroke (lb0_impl_ThinStroke env) tm h) (loopT (s0_impl_ThinStroke s_ step_) st) (fun (q : Sl Point) (r : Res) => match q with | q31 => ∃ (z30 : AV) (z32 : AV) (z33 : AV) (h28 : Heap), r = (.exit 0, [AV.agg [Sl.enc s_.points], iv step_, AV.ptr o1 1 0 0, und, AV.ptr o5 1 0 0, iv 0, AV.ptr o17 1 0 0, z32, z33, AV.agg [Sl.enc s_.points], bv c9, bv (!c9), und, iv step_, bv c13, bv (!c13), und, AV.ptr o1 1 0 0, Sl.enc s_.points, iv (((s_.points.getD []).length : Nat) : Int), AV.top, AV.top, AV.top, AV.top, AV.top, AV.top, AV.top, AV.top, AV.top, AV.top, AV.top, AV.top, AV.top, AV.top, AV.top, AV.top, AV.top, AV.top, AV.top, AV.top, AV.top, AV.top, AV.top, AV.top, AV.top, AV.top, AV.top, AV.top, AV.top, AV.top, AV.top, und], h28) ∧ Hold B h28 [(AV.ptr o1 1 0 0, .pt 1 [Sl.enc s_.points]), (AV.ptr o5 1 0 0, .pt 1 [nilS]), (AV.ptr o17 1 0 0, .pt 1 [z30]), (z30, obS (q31 : Sl Point))]) := by
  refine loop_sim (Rel := fun (st : (Sl Point) × Int) tm h25 => match st with | (w24, w27) => ∃ z23, tm = [AV.agg [Sl.enc s_.points], iv step_, AV.ptr o1 1 0 0, und, AV.ptr o5 1 0 0, iv 0, AV.ptr o17 1 0 0, AV.top, AV.top, AV.agg [Sl.enc s_.points], bv c9, bv (!c9), und, iv step_, bv c13, bv (!c13), und, AV.ptr o1 1 0 0, Sl.enc s_.points, iv (((s_.points.getD []).length : Nat) : Int), iv w27, AV.top, AV.top, AV.top, AV.top, AV.top, AV.top, AV.top, AV.top, AV.top, AV.top, AV.top, AV.top, AV.top, AV.top, AV.top, AV.top, AV.top, AV.top, AV.top, AV.top, AV.top, AV.top, AV.top, AV.top, AV.top, AV.top, AV.top, AV.top, AV.top, AV.top, und] ∧ Hold B h25 [(AV.ptr o1 1 0 0, .pt 1 [Sl.enc s_.points]), (AV.ptr o5 1 0 0, .pt 1 [nilS]), (AV.ptr o17 1 0 0, .pt 1 [z23]), (z23, obS (w24 : Sl Point))]) (fun st tm h25 R => ?_) R
  obtain ⟨w24, w27⟩ := st
  obtain ⟨z23, rfl, O26⟩ := R
  rw [e_lb0_impl_ThinStroke]
  unfold s0_impl_ThinStroke
  dsimp only
  refine sim_let (v := bv (decide (w27 < (((s_.points.getD []).length : Nat) : Int)))) (aBin_lss _ _) ?_
  refine sim_cond (fun c37 => ?_) (fun c37 => ?_)
  · refine sim_get (Tab.enc h25 s_.points) (fun m39 a38 hi40 hm41 => ?_)
    refine sim_let (v := AV.agg [iv a38.x, iv a38.y, iv a38.t]) ((Tab.enc h25 s_.points).ld hm41 true 3 0) ?_
    refine sim_box O26 (cs := [iv 0, iv 0, iv 0]) (by first | rfl | simp) (fun o42 h43 O44 => ?_)
    replace O44 : Hold B h43 [(AV.ptr o1 1 0 0, .pt 1 [Sl.enc s_.points]), (AV.ptr o5 1 0 0, .pt 1 [nilS]), (AV.ptr o17 1 0 0, .pt 1 [z23]), (z23, obS (w24 : Sl Point)), (AV.ptr o42 1 0 0, .pt 3 [iv 0, iv 0, iv 0])] := O44
    refine sim_store O44 4 (cs' := [iv a38.x, iv a38.y, iv a38.t]) rfl (by first | rfl | simp) (by simp) (by first | rfl | simp) (by first | rfl | simp [splice]) (fun h46 O47 => ?_)
    replace O47 : Hold B h46 [(AV.ptr o1 1 0 0, .pt 1 [Sl.enc s_.points]), (AV.ptr o5 1 0 0, .pt 1 [nilS]), (AV.ptr o17 1 0 0, .pt 1 [z23]), (z23, obS (w24 : Sl Point)), (AV.ptr o42 1 0 0, .pt 3 [iv a38.x, iv a38.y, iv a38.t])] := O47
    refine sim_let (v := bv (decide (w27 = 0))) (aCmp_eq _ _) ?_
    refine sim_g6F (e := bv) (fun hb48 => ?_) (fun y50 y51 y52 y53 y54 c49 => ?_)
    · refine sim_o0 ?_
      refine sim_o1 ?_
      refine sim_let (v := AV.ptr o1 1 0 0) rfl ?_
      refine sim_o0 ?_
      refine sim_o1 ?_
      refine sim_let (v := Sl.enc s_.points) (O47.ld 0 rfl false 1 0) ?_
      refine sim_o0 ?_
      refine sim_o1 ?_
      refine sim_let (v := iv (((s_.points.getD []).length : Nat) : Int)) (Tab.enc h46 s_.points).len ?_
      refine sim_o0 ?_
      refine sim_o1 ?_
      refine sim_let (v := iv (wr ((((s_.points.getD []).length : Nat) : Int) - 1))) (aBin_sub _ _) ?_
      refine sim_o0 ?_
      refine sim_let (v := bv (decide (w27 = wr ((((s_.points.getD []).length : Nat) : Int) - 1)))) (aCmp_eq _ _) ?_
      exact sim_ret rfl
    · refine sim_let (v := bv (bif decide (w27 = 0) then true else c49)) (pick_b' _ _ _) ?_
      refine sim_g7F (e := bv) (fun hb55 => ?_) (fun y59 y60 y61 y62 y63 y64 c58 => ?_)
      · refine sim_o1 ?_
        refine sim_let (v := AV.agg [z23]) (O47.ld 2 rfl true 1 0) ?_
        refine sim_o0 ?_
        refine sim_o2 ?_
        refine sim_callQ1 he_impl_lastOf (snapD_own h46 (⟨w24⟩ : Stroke) rfl (by simp [omap, O47.snap7 (A := Point) (s := w24) 3 rfl])) (fun c56 => ?_)
        refine sim_let2 (hand_plain (by rfl) _ _) ?_
        refine sim_o0 ?_
        refine sim_o1 ?_
        refine sim_let (v := AV.agg [iv a38.x, iv a38.y, iv a38.t]) (O47.ld 4 rfl true 3 0) ?_
        refine sim_o0 ?_
        refine sim_o2 ?_
        refine sim_callQ2 he_impl_lengthOf (snapD_nr _ c56 rfl) (snapD_nr _ a38 rfl) (fun c57 => ?_)
        refine sim_let2 (hand_plain (by rfl) _ _) ?_
        refine sim_o0 ?_
        refine sim_o0 ?_
        refine sim_o1 ?_
        refine sim_let (v := iv (wr (step_ * 16))) (aBin_mul _ _) ?_
        refine sim_o0 ?_
        refine sim_let (v := bv (decide ((wr (step_ * 16)) ≤ c57))) (aBin_geq _ _) ?_
        exact sim_ret rfl
      · refine sim_let (v := bv (bif (bif decide (w27 = 0) then true else c49) then true else c58)) (pick_b' _ _ _) ?_
        refine sim_cond (fun c65 => ?_) (fun c65 => ?_)
        · refine sim_let (v := AV.ptr o17 1 0 0) rfl ?_
          refine sim_let (v := z23) (O47.ld 2 rfl false 1 0) ?_
          refine sim_let (v := AV.agg [iv a38.x, iv a38.y, iv a38.t]) (O47.ld 4 rfl true 3 0) ?_
          refine sim_build (A := Point) O47 ([a38] : List Point) rfl (by first | rfl | simp [aFillRows, zrows]) rfl (fun x66 h67 O68 => ?_)
          replace O68 : Hold B h67 [(AV.ptr o1 1 0 0, .pt 1 [Sl.enc s_.points]), (AV.ptr o5 1 0 0, .pt 1 [nilS]), (AV.ptr o17 1 0 0, .pt 1 [z23]), (z23, obS (w24 : Sl Point)), (AV.ptr o42 1 0 0, .pt 3 [iv a38.x, iv a38.y, iv a38.t]), (x66, obS ((some ([a38] : List Point)) : Sl Point))] := O68
          refine sim_append (A := Point) (s := w24) O68 3 ([a38] : List Point) rfl (O68.src (A := Point) (s := (some ([a38] : List Point))) 5 rfl) (by decide) (fun x71 h72 O73 => ?_)
          replace O73 : Hold B h72 [(AV.ptr o1 1 0 0, .pt 1 [Sl.enc s_.points]), (AV.ptr o5 1 0 0, .pt 1 [nilS]), (AV.ptr o17 1 0 0, .pt 1 [z23]), (x71, obS ((appS w24 ([a38] : List Point)) : Sl Point)), (AV.ptr o42 1 0 0, .pt 3 [iv a38.x, iv a38.y, iv a38.t]), (x66, obS ((some ([a38] : List Point)) : Sl Point))] := O73
          have O75 : Hold B h72 [(AV.ptr o1 1 0 0, .pt 1 [Sl.enc s_.points]), (AV.ptr o5 1 0 0, .pt 1 [nilS]), (AV.ptr o17 1 0 0, .pt 1 [z23]), (x71, obS ((appS w24 ([a38] : List Point)) : Sl Point)), (AV.ptr o42 1 0 0, .pt 3 [iv a38.x, iv a38.y, iv a38.t])] := O73.sel [0, 1, 2, 3, 4] (by decide) rfl
          refine sim_let (v := AV.ptr o17 1 0 0) rfl ?_
          refine sim_store O75 2 (cs' := [x71]) rfl (by first | rfl | simp [(O75.one (A := Point) (s := (appS w24 ([a38] : List Point))) 3 rfl).1, (O75.one (A := Point) (s := (appS w24 ([a38] : List Point))) 3 rfl).2]) (by simp) (by first | rfl | simp [(O75.one (A := Point) (s := (appS w24 ([a38] : List Point))) 3 rfl).1, (O75.one (A := Point) (s := (appS w24 ([a38] : List Point))) 3 rfl).2]) (by first | rfl | simp [splice, (O75.one (A := Point) (s := (appS w24 ([a38] : List Point))) 3 rfl).1, (O75.one (A := Point) (s := (appS w24 ([a38] : List Point))) 3 rfl).2]) (fun h76 O77 => ?_)
          replace O77 : Hold B h76 [(AV.ptr o1 1 0 0, .pt 1 [Sl.enc s_.points]), (AV.ptr o5 1 0 0, .pt 1 [nilS]), (AV.ptr o17 1 0 0, .pt 1 [x71]), (x71, obS ((appS w24 ([a38] : List Point)) : Sl Point)), (AV.ptr o42 1 0 0, .pt 3 [iv a38.x, iv a38.y, iv a38.t])] := O77
          refine sim_let (v := iv (wr (w27 + 1))) (aBin_add _ _) ?_
          have O78 : Hold B h76 [(AV.ptr o1 1 0 0, .pt 1 [Sl.enc s_.points]), (AV.ptr o5 1 0 0, .pt 1 [nilS]), (AV.ptr o17 1 0 0, .pt 1 [x71]), (x71, obS ((appS w24 ([a38] : List Point)) : Sl Point))] := O77.sel [0, 1, 2, 3] (by decide) rfl
          exact sim_ret ⟨rfl, _, rfl, O78⟩
        · refine sim_let (v := iv (wr (w27 + 1))) (aBin_add _ _) ?_
          have O79 : Hold B h46 [(AV.ptr o1 1 0 0, .pt 1 [Sl.enc s_.points]), (AV.ptr o5 1 0 0, .pt 1 [nilS]), (AV.ptr o17 1 0 0, .pt 1 [z23]), (z23, obS (w24 : Sl Point))] := O47.sel [0, 1, 2, 3] (by decide) rfl
          exact sim_ret ⟨rfl, _, rfl, O79⟩
  · exact sim_ret ⟨nofun, _, _, _, _, rfl, O26⟩
theorem ts_impl_ThinStroke (env : Nat → Contract) (he_impl_ValidStroke : env n_impl_ValidStroke = .pure (C1 (fun c : Bool => enc c) t_impl_ValidStroke)) (he_impl_lastOf : env n_impl_lastOf = .pure (C1 (fun c : Point => enc c) t_impl_lastOf)) (he_impl_lengthOf : env n_impl_lengthOf = .pure (C2 (fun c : Int => enc c) t_impl_lengthOf)) (he_impl_within : env n_impl_within = .pure (T3 within)) (s_ : Stroke) (step_ : Int) : Sim (denFn Try.prog env n_impl_ThinStroke [AV.agg [Sl.enc s_.points], iv step_] []) (t_impl_ThinStroke s_ step_) fun c p => release p.2 depth p.1 = some ((fun c : Stroke × Int => AV.tup [AV.agg [rS c.1.points], enc c.2]) c) := by
  have O := Hold.nil []
  generalize hB : (⟨[], []⟩ : Base) = B at O
  clear hB
  rw [e_impl_ThinStroke]
  unfold t_impl_ThinStroke
  refine sim_box O (cs := [Sl.enc s_.points]) (by first | rfl | simp) (fun o1 h2 O3 => ?_)
  replace O3 : Hold B h2 [(AV.ptr o1 1 0 0, .pt 1 [Sl.enc s_.points])] := O3
  refine sim_box O3 (cs := [nilS]) (by first | rfl | simp) (fun o5 h6 O7 => ?_)
  replace O7 : Hold B h6 [(AV.ptr o1 1 0 0, .pt 1 [Sl.enc s_.points]), (AV.ptr o5 1 0 0, .pt 1 [nilS])] := O7
  refine sim_let (v := AV.agg [Sl.enc s_.points]) (O7.ld 0 rfl true 1 0) ?_
  refine sim_call1 he_impl_ValidStroke (snapD_nr _ s_ rfl) (fun c9 => ?_)
  refine sim_let2 (hand_plain (by rfl) _ _) ?_
  refine sim_let (v := bv (!c9)) (aUn_not _) ?_
  refine sim_cond (fun c10 => ?_) (fun c10 => ?_)
  · refine sim_let (v := AV.agg [nilS]) (by first | rfl | simp [aBuild, aFill, splice]) ?_
    refine sim_store O7 1 (cs' := [nilS]) rfl (by first | rfl | simp) (by simp) (by first | rfl | simp) (by first | rfl | simp [splice]) (fun h11 O12 => ?_)
    replace O12 : Hold B h11 [(AV.ptr o1 1 0 0, .pt 1 [Sl.enc s_.points]), (AV.ptr o5 1 0 0, .pt 1 [nilS])] := O12
    refine sim_retL (resL_c (v := AV.agg [nilS]) (O12.ld 1 rfl true 1 0) (resL_v (v := iv 1) (resL_nil _))) ?_
    dsimp only [pack]
    exact sim_ret (release_plain (by rfl) _)
  · refine sim_callV3 (t := within) he_impl_within (snapD_int _ _) (snapD_int _ _) (snapD_int _ _) (fun c13 => ?_)
    refine sim_let (v := bv (!c13)) (aUn_not _) ?_
    refine sim_cond (fun c14 => ?_) (fun c14 => ?_)
    · refine sim_let (v := AV.agg [nilS]) (by first | rfl | simp [aBuild, aFill, splice]) ?_
      refine sim_store O7 1 (cs' := [nilS]) rfl (by first | rfl | simp) (by simp) (by first | rfl | simp) (by first | rfl | simp [splice]) (fun h15 O16 => ?_)
      replace O16 : Hold B h15 [(AV.ptr o1 1 0 0, .pt 1 [Sl.enc s_.points]), (AV.ptr o5 1 0 0, .pt 1 [nilS])] := O16
      refine sim_retL (resL_c (v := AV.agg [nilS]) (O16.ld 1 rfl true 1 0) (resL_v (v := iv 2) (resL_nil _))) ?_
      dsimp only [pack]
      exact sim_ret (release_plain (by rfl) _)
    · refine sim_box O7 (cs := [nilS]) (by first | rfl | simp) (fun o17 h18 O19 => ?_)
      replace O19 : Hold B h18 [(AV.ptr o1 1 0 0, .pt 1 [Sl.enc s_.points]), (AV.ptr o5 1 0 0, .pt 1 [nilS]), (AV.ptr o17 1 0 0, .pt 1 [nilS])] := O19
      refine sim_let (v := AV.ptr o1 1 0 0) rfl ?_
      refine sim_let (v := Sl.enc s_.points) (O19.ld 0 rfl false 1 0) ?_
      refine sim_let (v := iv (((s_.points.getD []).length : Nat) : Int)) (Tab.enc h18 s_.points).len ?_
      have O21 : Hold B h18 [(AV.ptr o1 1 0 0, .pt 1 [Sl.enc s_.points]), (AV.ptr o5 1 0 0, .pt 1 [nilS]), (AV.ptr o17 1 0 0, .pt 1 [nilS]), (nilS, obS ((none : Sl Point) : Sl Point))] := O19.addnil
      refine sim_bind ((tl0_impl_ThinStroke env he_impl_ValidStroke he_impl_lastOf he_impl_lengthOf he_impl_within s_ step_ o1 o5 c9 c13 o17) ⟨_, rfl, O21⟩) (fun qq82 r hq => ?_)
      revert hq
      revert qq82
      intro q31 hq
      obtain ⟨z30, z32, z33, h28, rfl, O29⟩ := hq
      rw [e_lk0x0_impl_ThinStroke]
      refine sim_let (v := AV.agg [z30]) (O29.ld 2 rfl true 1 0) ?_
      refine sim_store O29 1 (cs' := [z30]) rfl (by first | rfl | simp [(O29.one (A := Point) (s := q31) 3 rfl).1, (O29.one (A := Point) (s := q31) 3 rfl).2]) (by simp) (by first | rfl | simp [(O29.one (A := Point) (s := q31) 3 rfl).1, (O29.one (A := Point) (s := q31) 3 rfl).2]) (by first | rfl | simp [splice, (O29.one (A := Point) (s := q31) 3 rfl).1, (O29.one (A := Point) (s := q31) 3 rfl).2]) (fun h34 O35 => ?_)
      replace O35 : Hold B h34 [(AV.ptr o1 1 0 0, .pt 1 [Sl.enc s_.points]), (AV.ptr o5 1 0 0, .pt 1 [z30]), (AV.ptr o17 1 0 0, .pt 1 [z30]), (z30, obS (q31 : Sl Point))] := O35
      refine sim_retL (resL_c (v := AV.agg [z30]) (O35.ld 1 rfl true 1 0) (resL_v (v := iv 0) (resL_nil _))) ?_
      dsimp only [pack]
      have O36 : Hold B h34 [(z30, obS (q31 : Sl Point))] := O35.sel [3] (by decide) rfl
      exact sim_ret (release_of (by simp only [ids_tup, ids_aggD, ids_agg, ids_iv, ids_bv, ids_sv, ids_bt, ids_nilS, ids_enc, O36.idsD (A := Point) (s := q31) 0 rfl, List.map_append, List.map_nil, List.flatMap_cons, List.flatMap_nil, List.append_nil, List.nil_append]; simpa only [List.flatMap_cons, List.flatMap_nil, List.append_nil, List.nil_append] using O36.nd2) (by simp only [rel_tup, rel_aggD, rel_agg, rel_iv, rel_bv, rel_sv, rel_bt, rel_nilS, rel_enc, O36.relD (A := Point) (s := q31) 0 rfl, omapc, omapn, obind_sm] <;> rfl))
theorem tt_impl_ThinStroke : PureOK Try.prog n_impl_ThinStroke (C2 (fun c : Stroke × Int => AV.tup [AV.agg [rS c.1.points], enc c.2]) t_impl_ThinStroke) := pureC2 (Econs tt_impl_ValidStroke (Econs tt_impl_lastOf (Econs tt_impl_lengthOf (Econs ok_impl_within E0)))) mixed hb_impl_ThinStroke fun s_ step_ => ts_impl_ThinStroke _ (by simp [envL]) (by simp [envL]) (by simp [envL]) (by simp [envL]) s_ step_

def s0_spec_ThinStroke (s_ : Stroke) (step_ : Int) : ((Sl Point) × Int) → Option (Sum ((Sl Point) × Int) (Sl Point)) := fun (w32, w35) =>
  bif decide (w35 < (((s_.points.getD []).length : Nat) : Int)) then
    obind (getI (w32.getD []) (wr ((((w32.getD []).length : Nat) : Int) - 1))) fun a46 =>
    obind (bif decide (w35 = wr ((((s_.points.getD []).length : Nat) : Int) - 1)) then some false else (obind (getI (s_.points.getD []) w35) fun a57 => obind (t_spec_l05Length a46 a57) fun c61 => some (decide ((wr (step_ * 16)) ≤ c61)))) fun c62 =>
    bif (bif decide (w35 = wr ((((s_.points.getD []).length : Nat) : Int) - 1)) then true else c62) then
      obind (getI (s_.points.getD []) w35) fun a73 =>
      obind (appO w32 ([a73] : List Point)) fun _ =>
      some (.inl ((appS w32 ([a73] : List Point)), wr (w35 + 1)))
    else
      some (.inl (w32, wr (w35 + 1)))
  else
    some (.inr w32)
def t_spec_ThinStroke (s_ : Stroke) (step_ : Int) : Option (Stroke × Int) :=
  obind (t_spec_l02Stroke s_) fun c9 =>
  bif !c9 then
    some ((⟨(none : Sl Point)⟩ : Stroke), 1)
  else
    obind (some (within step_ 0 1000)) fun c13 =>
    bif !c13 then
      some ((⟨(none : Sl Point)⟩ : Stroke), 2)
    else
      obind (getI (s_.points.getD []) 0) fun a17 =>
      obind (loopT (s0_spec_ThinStroke s_ step_) ((some ([a17] : List Point)), 1)) fun q39 =>
      some ((⟨q39⟩ : Stroke), 0)

theorem tl0_spec_ThinStroke (env : Nat → Contract) {B : Base} (he_spec_l00In : env n_spec_l00In = .pure (T3 within)) (he_spec_l02Stroke : env n_spec_l02Stroke = .pure (C1 (fun c : Bool => enc c) tp_spec_l02Stroke)) (he_spec_l05Length : env n_spec_l05Length = .pure (C2 (fun c : Int => enc c) t_spec_l05Length)) (s_ : Stroke) (step_ : Int) (o1 : Nat) (o5 : Nat) (c9 : Bool) (c13 : Bool) (a17 : Point) (m18 : Nat) (x21 : AV) (o25 : Nat)  {st : (Sl Point) × Int} {tm : TM} {h : Heap} (R : (fun (st : (Sl Point) × Int) tm h33 => match st with | (w32, w35) => ∃ z31, tm = ((AV.agg [Sl.enc s_.points]) :: (iv step_) :: (AV.ptr o1 1 0 0) :: und :: (AV.ptr o5 1 0 0) :: (iv 0) :: (AV.ptr o25 1 0 0) :: (iv w35) :: AV.top :: (bv c9) :: (bv (!c9)) :: und :: (iv step_) :: (bv c13) :: (bv (!c13)) :: und :: (AV.ptr o1 1 0 0) :: (Sl.enc s_.points) :: (elp (Sl.enc s_.points) m18 0) :: (AV.agg [iv a17.x, iv a17.y, iv a17.t]) :: x21 :: (AV.agg [x21]) :: AV.top :: AV.top :: AV.top :: AV.top :: AV.top :: AV.top :: AV.top :: AV.top :: AV.top :: AV.top :: AV.top :: AV.top :: AV.top :: AV.top :: AV.top :: AV.top :: AV.top :: AV.top :: AV.top :: AV.top :: AV.top :: AV.top :: AV.top :: AV.top :: AV.top :: AV.top :: AV.top :: AV.top :: AV.top :: AV.top :: AV.top :: AV.top :: AV.top :: AV.top :: AV.top :: AV.top :: AV.top :: AV.top :: AV.top :: AV.top :: AV.top :: AV.top :: AV.top :: und :: []) ∧ Hold B h33 [(AV.ptr o1 1 0 0, .pt 1 [Sl.enc s_.points]), (AV.ptr o5 1 0 0, .pt 1 [nilS]), (z31, obS (w32 : Sl Point)), (AV.ptr o25 1 0 0, .pt 1 [z31])]) st tm h) : Sim (loopP hm0_spec_ThinStroke xm0_spec_ThinStroke (lb0_spec_ThinStroke env) tm h) (loopT (s0_spec_ThinStroke s_ step_) st) (fun (q : Sl Point) (r : Res) => match q with | q39 => ∃ (q40 : Int) (z38 : AV) (z41 : AV) (h36 : Heap), r = (.exit 0, ((AV.agg [Sl.enc s_.points]) :: (iv step_) :: (AV.ptr o1 1 0 0) :: und :: (AV.ptr o5 1 0 0) :: (iv 0) :: (AV.ptr o25 1 0 0) :: (iv q40) :: z41 :: (bv c9) :: (bv (!c9)) :: und :: (iv step_) :: (bv c13) :: (bv (!c13)) :: und :: (AV.ptr o1 1 0 0) :: (Sl.enc s_.points) :: (elp (Sl.enc s_.points) m18 0) :: (AV.agg [iv a17.x, iv a17.y, iv a17.t]) :: x21 :: (AV.agg [x21]) :: AV.top :: AV.top :: AV.top :: AV.top :: AV.top :: AV.top :: AV.top :: AV.top :: AV.top :: AV.top :: AV.top :: AV.top :: AV.top :: AV.top :: AV.top :: AV.top :: AV.top :: AV.top :: AV.top :: AV.top :: AV.top :: AV.top :: AV.top :: AV.top :: AV.top :: AV.top :: AV.top :: AV.top :: AV.top :: AV.top :: AV.top :: AV.top :: AV.top :: AV.top :: AV.top :: AV.top :: AV.top :: AV.top :: AV.top :: AV.top :: AV.top :: AV.top :: AV.top :: und :: []), h36) ∧ Hold B h36 [(AV.ptr o1 1 0 0, .pt 1 [Sl.enc s_.points]), (AV.ptr o5 1 0 0, .pt 1 [nilS]), (z38, obS (q39 : Sl Point)), (AV.ptr o25 1 0 0, .pt 1 [z38])]) := by
  refine loop_sim (Rel := fun (st : (Sl Point) × Int) tm h33 => match st with | (w32, w35) => ∃ z31, tm = ((AV.agg [Sl.enc s_.points]) :: (iv step_) :: (AV.ptr o1 1 0 0) :: und :: (AV.ptr o5 1 0 0) :: (iv 0) :: (AV.ptr o25 1 0 0) :: (iv w35) :: AV.top :: (bv c9) :: (bv (!c9)) :: und :: (iv step_) :: (bv c13) :: (bv (!c13)) :: und :: (AV.ptr o1 1 0 0) :: (Sl.enc s_.points) :: (elp (Sl.enc s_.points) m18 0) :: (AV.agg [iv a17.x, iv a17.y, iv a17.t]) :: x21 :: (AV.agg [x21]) :: AV.top :: AV.top :: AV.top :: AV.top :: AV.top :: AV.top :: AV.top :: AV.top :: AV.top :: AV.top :: AV.top :: AV.top :: AV.top :: AV.top :: AV.top :: AV.top :: AV.top :: AV.top :: AV.top :: AV.top :: AV.top :: AV.top :: AV.top :: AV.top :: AV.top :: AV.top :: AV.top :: AV.top :: AV.top :: AV.top :: AV.top :: AV.top :: AV.top :: AV.top :: AV.top :: AV.top :: AV.top :: AV.top :: AV.top :: AV.top :: AV.top :: AV.top :: AV.top :: und :: []) ∧ Hold B h33 [(AV.ptr o1 1 0 0, .pt 1 [Sl.enc s_.points]), (AV.ptr o5 1 0 0, .pt 1 [nilS]), (z31, obS (w32 : Sl Point)), (AV.ptr o25 1 0 0, .pt 1 [z31])]) (fun st tm h33 R => ?_) R
  obtain ⟨w32, w35⟩ := st
  obtain ⟨z31, rfl, O34⟩ := R
  rw [e_lb0_spec_ThinStroke]
  unfold s0_spec_ThinStroke
  dsimp only
  refine sim_let (v := AV.ptr o1 1 0 0) rfl ?_
  refine sim_let (v := Sl.enc s_.points) (O34.ld 0 rfl false 1 0) ?_
  refine sim_let (v := iv (((s_.points.getD []).length : Nat) : Int)) (Tab.enc h33 s_.points).len ?_
  refine sim_let (v := bv (decide (w35 < (((s_.points.getD []).length : Nat) : Int)))) (aBin_lss _ _) ?_
  refine sim_cond (fun c45 => ?_) (fun c45 => ?_)
  · refine sim_let (v := AV.ptr o25 1 0 0) rfl ?_
    refine sim_let (v := z31) (O34.ld 3 rfl false 1 0) ?_
    refine sim_let (v := AV.ptr o25 1 0 0) rfl ?_
    refine sim_let (v := z31) (O34.ld 3 rfl false 1 0) ?_
    refine sim_let (v := iv (((w32.getD []).length : Nat) : Int)) (O34.tab (A := Point) (s := w32) 2 rfl).len ?_
    refine sim_let (v := iv (wr ((((w32.getD []).length : Nat) : Int) - 1))) (aBin_sub _ _) ?_
    refine sim_get (O34.tab (A := Point) (s := w32) 2 rfl) (fun m47 a46 hi48 hm49 => ?_)
    refine sim_let (v := AV.agg [iv a46.x, iv a46.y, iv a46.t]) ((O34.tab (A := Point) (s := w32) 2 rfl).ld hm49 true 3 0) ?_
    refine sim_box O34 (cs := [iv 0, iv 0, iv 0]) (by first | rfl | simp) (fun o50 h51 O52 => ?_)
    replace O52 : Hold B h51 [(AV.ptr o1 1 0 0, .pt 1 [Sl.enc s_.points]), (AV.ptr o5 1 0 0, .pt 1 [nilS]), (z31, obS (w32 : Sl Point)), (AV.ptr o25 1 0 0, .pt 1 [z31]), (AV.ptr o50 1 0 0, .pt 3 [iv 0, iv 0, iv 0])] := O52
    refine sim_store O52 4 (cs' := [iv a46.x, iv a46.y, iv a46.t]) rfl (by first | rfl | simp) (by simp) (by first | rfl | simp) (by first | rfl | simp [splice]) (fun h54 O55 => ?_)
    replace O55 : Hold B h54 [(AV.ptr o1 1 0 0, .pt 1 [Sl.enc s_.points]), (AV.ptr o5 1 0 0, .pt 1 [nilS]), (z31, obS (w32 : Sl Point)), (AV.ptr o25 1 0 0, .pt 1 [z31]), (AV.ptr o50 1 0 0, .pt 3 [iv a46.x, iv a46.y, iv a46.t])] := O55
    refine sim_let (v := AV.ptr o1 1 0 0) rfl ?_
    refine sim_let (v := Sl.enc s_.points) (O55.ld 0 rfl false 1 0) ?_
    refine sim_let (v := iv (((s_.points.getD []).length : Nat) : Int)) (Tab.enc h54 s_.points).len ?_
    refine sim_let (v := iv (wr ((((s_.points.getD []).length : Nat) : Int) - 1))) (aBin_sub _ _) ?_
    refine sim_let (v := bv (decide (w35 = wr ((((s_.points.getD []).length : Nat) : Int) - 1)))) (aCmp_eq _ _) ?_
    refine sim_g10F (e := bv) (fun hb56 => ?_) (fun y63 y64 y65 y66 y67 y68 y69 y70 y71 c62 => ?_)
    · refine sim_o1 ?_
      refine sim_let (v := AV.agg [iv a46.x, iv a46.y, iv a46.t]) (O55.ld 4 rfl true 3 0) ?_
      refine sim_o0 ?_
      refine sim_o1 ?_
      refine sim_let (v := AV.ptr o1 1 0 0) rfl ?_
      refine sim_o0 ?_
      refine sim_o1 ?_
      refine sim_let (v := Sl.enc s_.points) (O55.ld 0 rfl false 1 0) ?_
      refine sim_o0 ?_
      refine sim_o0 ?_
      refine sim_o1 ?_
      refine sim_get (Tab.enc h54 s_.points) (fun m58 a57 hi59 hm60 => ?_)
      refine sim_o0 ?_
      refine sim_o1 ?_
      refine sim_let (v := AV.agg [iv a57.x, iv a57.y, iv a57.t]) ((Tab.enc h54 s_.points).ld hm60 true 3 0) ?_
      refine sim_o0 ?_
      refine sim_o2 ?_
      refine sim_callQ2 he_spec_l05Length (snapD_nr _ a46 rfl) (snapD_nr _ a57 rfl) (fun c61 => ?_)
      refine sim_let2 (hand_plain (by rfl) _ _) ?_
      refine sim_o0 ?_
      refine sim_o0 ?_
      refine sim_o1 ?_
      refine sim_let (v := iv (wr (step_ * 16))) (aBin_mul _ _) ?_
      refine sim_o0 ?_
      refine sim_let (v := bv (decide ((wr (step_ * 16)) ≤ c61))) (aBin_geq _ _) ?_
      exact sim_ret rfl
    · refine sim_let (v := bv (bif decide (w35 = wr ((((s_.points.getD []).length : Nat) : Int) - 1)) then true else c62)) (pick_b' _ _ _) ?_
      refine sim_cond (fun c72 => ?_) (fun c72 => ?_)
      · refine sim_let (v := AV.ptr o25 1 0 0) rfl ?_
        refine sim_let (v := z31) (O55.ld 3 rfl false 1 0) ?_
        refine sim_let (v := AV.ptr o1 1 0 0) rfl ?_
        refine sim_let (v := Sl.enc s_.points) (O55.ld 0 rfl false 1 0) ?_
        refine sim_get (Tab.enc h54 s_.points) (fun m74 a73 hi75 hm76 => ?_)
        refine sim_let (v := AV.agg [iv a73.x, iv a73.y, iv a73.t]) ((Tab.enc h54 s_.points).ld hm76 true 3 0) ?_
        refine sim_build (A := Point) O55 ([a73] : List Point) rfl (by first | rfl | simp [aFillRows, zrows]) rfl (fun x77 h78 O79 => ?_)
        replace O79 : Hold B h78 [(AV.ptr o1 1 0 0, .pt 1 [Sl.enc s_.points]), (AV.ptr o5 1 0 0, .pt 1 [nilS]), (z31, obS (w32 : Sl Point)), (AV.ptr o25 1 0 0, .pt 1 [z31]), (AV.ptr o50 1 0 0, .pt 3 [iv a46.x, iv a46.y, iv a46.t]), (x77, obS ((some ([a73] : List Point)) : Sl Point))] := O79
        refine sim_append (A := Point) (s := w32) O79 2 ([a73] : List Point) rfl (O79.src (A := Point) (s := (some ([a73] : List Point))) 5 rfl) (by decide) (fun x82 h83 O84 => ?_)
        replace O84 : Hold B h83 [(AV.ptr o1 1 0 0, .pt 1 [Sl.enc s_.points]), (AV.ptr o5 1 0 0, .pt 1 [nilS]), (x82, obS ((appS w32 ([a73] : List Point)) : Sl Point)), (AV.ptr o25 1 0 0, .pt 1 [z31]), (AV.ptr o50 1 0 0, .pt 3 [iv a46.x, iv a46.y, iv a46.t]), (x77, obS ((some ([a73] : List Point)) : Sl Point))] := O84
        have O86 : Hold B h83 [(AV.ptr o1 1 0 0, .pt 1 [Sl.enc s_.points]), (AV.ptr o5 1 0 0, .pt 1 [nilS]), (x82, obS ((appS w32 ([a73] : List Point)) : Sl Point)), (AV.ptr o25 1 0 0, .pt 1 [z31]), (AV.ptr o50 1 0 0, .pt 3 [iv a46.x, iv a46.y, iv a46.t])] := O84.sel [0, 1, 2, 3, 4] (by decide) rfl
        refine sim_let (v := AV.ptr o25 1 0 0) rfl ?_
        refine sim_store O86 3 (cs' := [x82]) rfl (by first | rfl | simp [(O86.one (A := Point) (s := (appS w32 ([a73] : List Point))) 2 rfl).1, (O86.one (A := Point) (s := (appS w32 ([a73] : List Point))) 2 rfl).2]) (by simp) (by first | rfl | simp [(O86.one (A := Point) (s := (appS w32 ([a73] : List Point))) 2 rfl).1, (O86.one (A := Point) (s := (appS w32 ([a73] : List Point))) 2 rfl).2]) (by first | rfl | simp [splice, (O86.one (A := Point) (s := (appS w32 ([a73] : List Point))) 2 rfl).1, (O86.one (A := Point) (s := (appS w32 ([a73] : List Point))) 2 rfl).2]) (fun h87 O88 => ?_)
        replace O88 : Hold B h87 [(AV.ptr o1 1 0 0, .pt 1 [Sl.enc s_.points]), (AV.ptr o5 1 0 0, .pt 1 [nilS]), (x82, obS ((appS w32 ([a73] : List Point)) : Sl Point)), (AV.ptr o25 1 0 0, .pt 1 [x82]), (AV.ptr o50 1 0 0, .pt 3 [iv a46.x, iv a46.y, iv a46.t])] := O88
        refine sim_let (v := iv (wr (w35 + 1))) (aBin_add _ _) ?_
        have O89 : Hold B h87 [(AV.ptr o1 1 0 0, .pt 1 [Sl.enc s_.points]), (AV.ptr o5 1 0 0, .pt 1 [nilS]), (x82, obS ((appS w32 ([a73] : List Point)) : Sl Point)), (AV.ptr o25 1 0 0, .pt 1 [x82])] := O88.sel [0, 1, 2, 3] (by decide) rfl
        exact sim_ret ⟨rfl, _, rfl, O89⟩
      · refine sim_let (v := iv (wr (w35 + 1))) (aBin_add _ _) ?_
        have O90 : Hold B h54 [(AV.ptr o1 1 0 0, .pt 1 [Sl.enc s_.points]), (AV.ptr o5 1 0 0, .pt 1 [nilS]), (z31, obS (w32 : Sl Point)), (AV.ptr o25 1 0 0, .pt 1 [z31])] := O55.sel [0, 1, 2, 3] (by decide) rfl
        exact sim_ret ⟨rfl, _, rfl, O90⟩
  · exact sim_ret ⟨nofun, _, _, _, _, rfl, O34⟩
theorem ts_spec_ThinStroke (env : Nat → Contract) (he_spec_l00In : env n_spec_l00In = .pure (T3 within)) (he_spec_l02Stroke : env n_spec_l02Stroke = .pure (C1 (fun c : Bool => enc c) tp_spec_l02Stroke)) (he_spec_l05Length : env n_spec_l05Length = .pure (C2 (fun c : Int => enc c) t_spec_l05Length)) (s_ : Stroke) (step_ : Int) : Sim (denFn Try.prog env n_spec_ThinStroke [AV.agg [Sl.enc s_.points], iv step_] []) (t_spec_ThinStroke s_ step_) fun c p => release p.2 depth p.1 = some ((fun c : Stroke × Int => AV.tup [AV.agg [rS c.1.points], enc c.2]) c) := by
  have O := Hold.nil []
  generalize hB : (⟨[], []⟩ : Base) = B at O
  clear hB
  rw [e_spec_ThinStroke]
  unfold t_spec_ThinStroke
  refine sim_box O (cs := [Sl.enc s_.points]) (by first | rfl | simp) (fun o1 h2 O3 => ?_)
  replace O3 : Hold B h2 [(AV.ptr o1 1 0 0, .pt 1 [Sl.enc s_.points])] := O3
  refine sim_box O3 (cs := [nilS]) (by first | rfl | simp) (fun o5 h6 O7 => ?_)
  replace O7 : Hold B h6 [(AV.ptr o1 1 0 0, .pt 1 [Sl.enc s_.points]), (AV.ptr o5 1 0 0, .pt 1 [nilS])] := O7
  refine sim_eqO (y' := tp_spec_l02Stroke ⟨[s_], 0⟩) (by simp only [tp_spec_l02Stroke, get_pt1, obind_sm]) ?_
  refine sim_call1 he_spec_l02Stroke (O7.snapRn 0 rfl s_ rfl rfl) (fun c9 => ?_)
  refine sim_let2 (hand_plain (by rfl) _ _) ?_
  refine sim_let (v := bv (!c9)) (aUn_not _) ?_
  refine sim_cond (fun c10 => ?_) (fun c10 => ?_)
  · refine sim_let (v := AV.agg [nilS]) (by first | rfl | simp [aBuild, aFill, splice]) ?_
    refine sim_store O7 1 (cs' := [nilS]) rfl (by first | rfl | simp) (by simp) (by first | rfl | simp) (by first | rfl | simp [splice]) (fun h11 O12 => ?_)
    replace O12 : Hold B h11 [(AV.ptr o1 1 0 0, .pt 1 [Sl.enc s_.points]), (AV.ptr o5 1 0 0, .pt 1 [nilS])] := O12
    refine sim_retL (resL_c (v := AV.agg [nilS]) (O12.ld 1 rfl true 1 0) (resL_v (v := iv 1) (resL_nil _))) ?_
    dsimp only [pack]
    exact sim_ret (release_plain (by rfl) _)
  · refine sim_callV3 (t := within) he_spec_l00In (snapD_int _ _) (snapD_int _ _) (snapD_int _ _) (fun c13 => ?_)
    refine sim_let (v := bv (!c13)) (aUn_not _) ?_
    refine sim_cond (fun c14 => ?_) (fun c14 => ?_)
    · refine sim_let (v := AV.agg [nilS]) (by first | rfl | simp [aBuild, aFill, splice]) ?_
      refine sim_store O7 1 (cs' := [nilS]) rfl (by first | rfl | simp) (by simp) (by first | rfl | simp) (by first | rfl | simp [splice]) (fun h15 O16 => ?_)
      replace O16 : Hold B h15 [(AV.ptr o1 1 0 0, .pt 1 [Sl.enc s_.points]), (AV.ptr o5 1 0 0, .pt 1 [nilS])] := O16
      refine sim_retL (resL_c (v := AV.agg [nilS]) (O16.ld 1 rfl true 1 0) (resL_v (v := iv 2) (resL_nil _))) ?_
      dsimp only [pack]
      exact sim_ret (release_plain (by rfl) _)
    · refine sim_let (v := AV.ptr o1 1 0 0) rfl ?_
      refine sim_let (v := Sl.enc s_.points) (O7.ld 0 rfl false 1 0) ?_
      refine sim_get (Tab.enc h6 s_.points) (fun m18 a17 hi19 hm20 => ?_)
      refine sim_let (v := AV.agg [iv a17.x, iv a17.y, iv a17.t]) ((Tab.enc h6 s_.points).ld hm20 true 3 0) ?_
      refine sim_build (A := Point) O7 ([a17] : List Point) rfl (by first | rfl | simp [aFillRows, zrows]) rfl (fun x21 h22 O23 => ?_)
      replace O23 : Hold B h22 [(AV.ptr o1 1 0 0, .pt 1 [Sl.enc s_.points]), (AV.ptr o5 1 0 0, .pt 1 [nilS]), (x21, obS ((some ([a17] : List Point)) : Sl Point))] := O23
      refine sim_let (v := AV.agg [x21]) (by first | rfl | simp [aBuild, aFill, splice, (O23.one (A := Point) (s := (some ([a17] : List Point))) 2 rfl).1, (O23.one (A := Point) (s := (some ([a17] : List Point))) 2 rfl).2]) ?_
      refine sim_box O23 (cs := [nilS]) (by first | rfl | simp) (fun o25 h26 O27 => ?_)
      replace O27 : Hold B h26 [(AV.ptr o1 1 0 0, .pt 1 [Sl.enc s_.points]), (AV.ptr o5 1 0 0, .pt 1 [nilS]), (x21, obS ((some ([a17] : List Point)) : Sl Point)), (AV.ptr o25 1 0 0, .pt 1 [nilS])] := O27
      refine sim_store O27 3 (cs' := [x21]) rfl (by first | rfl | simp [(O27.one (A := Point) (s := (some ([a17] : List Point))) 2 rfl).1, (O27.one (A := Point) (s := (some ([a17] : List Point))) 2 rfl).2]) (by simp) (by first | rfl | simp [(O27.one (A := Point) (s := (some ([a17] : List Point))) 2 rfl).1, (O27.one (A := Point) (s := (some ([a17] : List Point))) 2 rfl).2]) (by first | rfl | simp [splice, (O27.one (A := Point) (s := (some ([a17] : List Point))) 2 rfl).1, (O27.one (A := Point) (s := (some ([a17] : List Point))) 2 rfl).2]) (fun h29 O30 => ?_)
      replace O30 : Hold B h29 [(AV.ptr o1 1 0 0, .pt 1 [Sl.enc s_.points]), (AV.ptr o5 1 0 0, .pt 1 [nilS]), (x21, obS ((some ([a17] : List Point)) : Sl Point)), (AV.ptr o25 1 0 0, .pt 1 [x21])] := O30
      refine sim_bind ((tl0_spec_ThinStroke env he_spec_l00In he_spec_l02Stroke he_spec_l05Length s_ step_ o1 o5 c9 c13 a17 m18 x21 o25) ⟨_, rfl, O30⟩) (fun qq93 r hq => ?_)
      revert hq
      revert qq93
      intro q39 hq
      obtain ⟨q40, z38, z41, h36, rfl, O37⟩ := hq
      rw [e_lk0x0_spec_ThinStroke]
      refine sim_let (v := AV.agg [z38]) (O37.ld 3 rfl true 1 0) ?_
      refine sim_store O37 1 (cs' := [z38]) rfl (by first | rfl | simp [(O37.one (A := Point) (s := q39) 2 rfl).1, (O37.one (A := Point) (s := q39) 2 rfl).2]) (by simp) (by first | rfl | simp [(O37.one (A := Point) (s := q39) 2 rfl).1, (O37.one (A := Point) (s := q39) 2 rfl).2]) (by first | rfl | simp [splice, (O37.one (A := Point) (s := q39) 2 rfl).1, (O37.one (A := Point) (s := q39) 2 rfl).2]) (fun h42 O43 => ?_)
      replace O43 : Hold B h42 [(AV.ptr o1 1 0 0, .pt 1 [Sl.enc s_.points]), (AV.ptr o5 1 0 0, .pt 1 [z38]), (z38, obS (q39 : Sl Point)), (AV.ptr o25 1 0 0, .pt 1 [z38])] := O43
      refine sim_retL (resL_c (v := AV.agg [z38]) (O43.ld 1 rfl true 1 0) (resL_v (v := iv 0) (resL_nil _))) ?_
      dsimp only [pack]
      have O44 : Hold B h42 [(z38, obS (q39 : Sl Point))] := O43.sel [2] (by decide) rfl
      exact sim_ret (release_of (by simp only [ids_tup, ids_aggD, ids_agg, ids_iv, ids_bv, ids_sv, ids_bt, ids_nilS, ids_enc, O44.idsD (A := Point) (s := q39) 0 rfl, List.map_append, List.map_nil, List.flatMap_cons, List.flatMap_nil, List.append_nil, List.nil_append]; simpa only [List.flatMap_cons, List.flatMap_nil, List.append_nil, List.nil_append] using O44.nd2) (by simp only [rel_tup, rel_aggD, rel_agg, rel_iv, rel_bv, rel_sv, rel_bt, rel_nilS, rel_enc, O44.relD (A := Point) (s := q39) 0 rfl, omapc, omapn, obind_sm] <;> rfl))
theorem tt_spec_ThinStroke : PureOK Try.prog n_spec_ThinStroke (C2 (fun c : Stroke × Int => AV.tup [AV.agg [rS c.1.points], enc c.2]) t_spec_ThinStroke) := pureC2 (Econs ok_spec_l00In (Econs tt_spec_l02Stroke (Econs tt_spec_l05Length E0))) mixed hb_spec_ThinStroke fun s_ step_ => ts_spec_ThinStroke _ (by simp [envL]) (by simp [envL]) (by simp [envL]) s_ step_

def t_slices_Clone_impl_Point_impl_Point (s_ : Sl Point) : Option (Sl Point) :=
  bif s_.isNone then
    some (none : Sl Point)
  else
    obind (appO (some ([] : List Point)) (s_.getD [])) fun _ =>
    some (appS (some ([] : List Point)) (s_.getD []))

theorem ts_slices_Clone_impl_Point_impl_Point (env : Nat → Contract)  (s_ : Sl Point) : Sim (denFn Try.prog env n_slices_Clone_impl_Point_impl_Point [Sl.enc s_] []) (t_slices_Clone_impl_Point_impl_Point s_) fun c p => release p.2 depth p.1 = some ((fun c : (Sl Point) => rS c) c) := by
  have O := Hold.nil []
  generalize hB : (⟨[], []⟩ : Base) = B at O
  clear hB
  rw [e_slices_Clone_impl_Point_impl_Point]
  unfold t_slices_Clone_impl_Point_impl_Point
  refine sim_let (v := bv s_.isNone) (cmp_eqN _) ?_
  refine sim_cond (fun c1 => ?_) (fun c1 => ?_)
  · exact sim_ret (release_plain (by rfl) _)
  · refine sim_build (A := Point) O ([] : List Point) rfl (by first | rfl | simp [aFillRows, zrows]) rfl (fun x2 h3 O4 => ?_)
    replace O4 : Hold B h3 [(x2, obS ((some ([] : List Point)) : Sl Point))] := O4
    refine sim_append (A := Point) (s := (some ([] : List Point))) O4 0 (s_.getD []) rfl (src_enc _ _) (by decide) (fun x7 h8 O9 => ?_)
    replace O9 : Hold B h8 [(x7, obS ((appS (some ([] : List Point)) (s_.getD [])) : Sl Point))] := O9
    exact sim_ret (O9.rel (A := Point) (s := (appS (some ([] : List Point)) (s_.getD []))) 0 rfl)
theorem tt_slices_Clone_impl_Point_impl_Point : PureOK Try.prog n_slices_Clone_impl_Point_impl_Point (C1 (fun c : (Sl Point) => rS c) t_slices_Clone_impl_Point_impl_Point) := pureC1 E0 mixed hb_slices_Clone_impl_Point_impl_Point fun s_ => ts_slices_Clone_impl_Point_impl_Point _  s_

def t_impl_floorDiv (n_ : Int) (d_ : Int) : Option Int :=
  obind (quoI n_ d_) fun q1 =>
  obind (remI n_ d_) fun q2 =>
  bif decide (q2 < 0) then
    some (wr (q1 - 1))
  else
    some q1

theorem ts_impl_floorDiv (env : Nat → Contract)  (n_ : Int) (d_ : Int) : Sim (denFn Try.prog env n_impl_floorDiv [iv n_, iv d_] []) (t_impl_floorDiv n_ d_) fun c p => release p.2 depth p.1 = some ((fun c : Int => enc c) c) := by
  have O := Hold.nil []
  generalize hB : (⟨[], []⟩ : Base) = B at O
  clear hB
  rw [e_impl_floorDiv]
  unfold t_impl_floorDiv
  refine sim_quo (fun q1 => ?_)
  refine sim_rem (fun q2 => ?_)
  refine sim_let (v := bv (decide (q2 < 0))) (aBin_lss _ _) ?_
  refine sim_cond (fun c3 => ?_) (fun c3 => ?_)
  · refine sim_let (v := iv (wr (q1 - 1))) (aBin_sub _ _) ?_
    exact sim_ret (release_plain (by rfl) _)
  · exact sim_ret (release_plain (by rfl) _)
theorem tt_impl_floorDiv : PureOK Try.prog n_impl_floorDiv (C2 (fun c : Int => enc c) t_impl_floorDiv) := pureC2 E0 mixed hb_impl_floorDiv fun n_ d_ => ts_impl_floorDiv _  n_ d_

def t_impl_nearestDiv (n_ : Int) (d_ : Int) : Option Int :=
  obind (t_impl_floorDiv n_ d_) fun c1 =>
  bif decide ((wr (d_ - (wr (n_ - (wr (c1 * d_)))))) ≤ (wr (n_ - (wr (c1 * d_))))) then
    some (wr (c1 + 1))
  else
    some c1

theorem ts_impl_nearestDiv (env : Nat → Contract) (he_impl_floorDiv : env n_impl_floorDiv = .pure (C2 (fun c : Int => enc c) t_impl_floorDiv)) (n_ : Int) (d_ : Int) : Sim (denFn Try.prog env n_impl_nearestDiv [iv n_, iv d_] []) (t_impl_nearestDiv n_ d_) fun c p => release p.2 depth p.1 = some ((fun c : Int => enc c) c) := by
  have O := Hold.nil []
  generalize hB : (⟨[], []⟩ : Base) = B at O
  clear hB
  rw [e_impl_nearestDiv]
  unfold t_impl_nearestDiv
  refine sim_call2 he_impl_floorDiv (snapD_int _ _) (snapD_int _ _) (fun c1 => ?_)
  refine sim_let2 (hand_plain (by rfl) _ _) ?_
  refine sim_let (v := iv (wr (c1 * d_))) (aBin_mul _ _) ?_
  refine sim_let (v := iv (wr (n_ - (wr (c1 * d_))))) (aBin_sub _ _) ?_
  refine sim_let (v := iv (wr (d_ - (wr (n_ - (wr (c1 * d_))))))) (aBin_sub _ _) ?_
  refine sim_let (v := bv (decide ((wr (d_ - (wr (n_ - (wr (c1 * d_)))))) ≤ (wr (n_ - (wr (c1 * d_))))))) (aBin_geq _ _) ?_
  refine sim_cond (fun c2 => ?_) (fun c2 => ?_)
  · refine sim_let (v := iv (wr (c1 + 1))) (aBin_add _ _) ?_
    exact sim_ret (release_plain (by rfl) _)
  · exact sim_ret (release_plain (by rfl) _)
theorem tt_impl_nearestDiv : PureOK Try.prog n_impl_nearestDiv (C2 (fun c : Int => enc c) t_impl_nearestDiv) := pureC2 (Econs tt_impl_floorDiv E0) mixed hb_impl_nearestDiv fun n_ d_ => ts_impl_nearestDiv _ (by simp [envL]) n_ d_

def s0_impl_SmoothStroke (s_ : Stroke) : ((Sl Point) × Int) → Option (Sum ((Sl Point) × Int) (Sl Point)) := fun (w24, w27) =>
  bif decide ((wr (w27 + 1)) < (((s_.points.getD []).length : Nat) : Int)) then
    obind (getI (s_.points.getD []) (wr (w27 - 1))) fun a39 =>
    obind (getI (s_.points.getD []) w27) fun a43 =>
    obind (getI (s_.points.getD []) (wr (w27 + 1))) fun a47 =>
    obind (t_impl_nearestDiv (wr ((wr (a39.x + (wr (2 * a43.x)))) + a47.x)) 4) fun c69 =>
    obind (getI (w24.getD []) w27) fun a70 =>
    obind (t_impl_nearestDiv (wr ((wr (a39.y + (wr (2 * a43.y)))) + a47.y)) 4) fun c76 =>
    obind (getI ((setS w24 w27 (⟨c69, a70.y, a70.t⟩ : Point)).getD []) w27) fun a77 =>
    some (.inl ((setS (setS w24 w27 (⟨c69, a70.y, a70.t⟩ : Point)) w27 (⟨a77.x, c76, a77.t⟩ : Point)), wr (w27 + 1)))
  else
    some (.inr w24)
def t_impl_SmoothStroke (s_ : Stroke) : Option (Stroke × Int) :=
  obind (t_impl_ValidStroke s_) fun c9 =>
  bif !c9 then
    some ((⟨(none : Sl Point)⟩ : Stroke), 1)
  else
    obind (t_slices_Clone_impl_Point_impl_Point s_.points) fun c13 =>
    obind (loopT (s0_impl_SmoothStroke s_) (c13, 1)) fun q30 =>
    some ((⟨q30⟩ : Stroke), 0)

theorem tl0_impl_SmoothStroke (env : Nat → Contract) {B : Base} (he_impl_ValidStroke : env n_impl_ValidStroke = .pure (C1 (fun c : Bool => enc c) t_impl_ValidStroke)) (he_impl_nearestDiv : env n_impl_nearestDiv = .pure (C2 (fun c : Int => enc c) t_impl_nearestDiv)) (he_slices_Clone_impl_Point_impl_Point : env n_slices_Clone_impl_Point_impl_Point = .pure (C1 (fun c : (Sl Point) => rS c) t_slices_Clone_impl_Point_impl_Point)) (s_ : Stroke) (o1 : Nat) (o5 : Nat) (c9 : Bool) (x15 : AV) (o18 : Nat)  {st : (Sl Point) × Int} {tm : TM} {h : Heap} (R : (fun (st : (Sl Point) × Int) tm h25 => match st with | (w24, w27) => tm = ((AV.agg [Sl.enc s_.points]) :: (AV.ptr o1 1 0 0) :: (AV.ptr o5 1 0 0) :: (iv 0) :: (AV.ptr o18 1 0 0) :: (iv w27) :: AV.top :: AV.top :: AV.top :: (AV.agg [Sl.enc s_.points]) :: (bv c9) :: (bv (!c9)) :: und :: (AV.ptr o1 1 0 0) :: (Sl.enc s_.points) :: x15 :: (AV.agg [x15]) :: AV.top :: AV.top :: AV.top :: AV.top :: AV.top :: AV.top :: AV.top :: AV.top :: AV.top :: AV.top :: AV.top :: AV.top :: AV.top :: AV.top :: AV.top :: AV.top :: AV.top :: AV.top :: AV.top :: AV.top :: AV.top :: AV.top :: AV.top :: AV.top :: AV.top :: AV.top :: AV.top :: AV.top :: AV.top :: AV.top :: AV.top :: AV.top :: AV.top :: AV.top :: AV.top :: AV.top :: AV.top :: AV.top :: AV.top :: AV.top :: AV.top :: AV.top :: AV.top :: AV.top :: AV.top :: AV.top :: AV.top :: AV.top :: AV.top :: AV.top :: AV.top :: AV.top :: AV.top :: AV.top :: AV.top :: und :: []) ∧ Hold B h25 [(AV.ptr o1 1 0 0, .pt 1 [Sl.enc s_.points]), (AV.ptr o5 1 0 0, .pt 1 [nilS]), (x15, obS (w24 : Sl Point)), (AV.ptr o18 1 0 0, .pt 1 [x15])]) st tm h) : Sim (loopP hm0_impl_SmoothStroke xm0_impl_SmoothStroke (lb0_impl_SmoothStroke env) tm h) (loopT (s0_impl_SmoothStroke s_) st) (fun (q : Sl Point) (r : Res) => match q with | q30 => ∃ (q31 : Int) (z32 : AV) (z33 : AV) (z34 : AV) (h28 : Heap), r = (.exit 0, ((AV.agg [Sl.enc s_.points]) :: (AV.ptr o1 1 0 0) :: (AV.ptr o5 1 0 0) :: (iv 0) :: (AV.ptr o18 1 0 0) :: (iv q31) :: z32 :: z33 :: z34 :: (AV.agg [Sl.enc s_.points]) :: (bv c9) :: (bv (!c9)) :: und :: (AV.ptr o1 1 0 0) :: (Sl.enc s_.points) :: x15 :: (AV.agg [x15]) :: AV.top :: AV.top :: AV.top :: AV.top :: AV.top :: AV.top :: AV.top :: AV.top :: AV.top :: AV.top :: AV.top :: AV.top :: AV.top :: AV.top :: AV.top :: AV.top :: AV.top :: AV.top :: AV.top :: AV.top :: AV.top :: AV.top :: AV.top :: AV.top :: AV.top :: AV.top :: AV.top :: AV.top :: AV.top :: AV.top :: AV.top :: AV.top :: AV.top :: AV.top :: AV.top :: AV.top :: AV.top :: AV.top :: AV.top :: AV.top :: AV.top :: AV.top :: AV.top :: AV.top :: AV.top :: AV.top :: AV.top :: AV.top :: AV.top :: AV.top :: AV.top :: AV.top :: AV.top :: AV.top :: AV.top :: und :: []), h28) ∧ Hold B h28 [(AV.ptr o1 1 0 0, .pt 1 [Sl.enc s_.points]), (AV.ptr o5 1 0 0, .pt 1 [nilS]), (x15, obS (q30 : Sl Point)), (AV.ptr o18 1 0 0, .pt 1 [x15])]) := by
  refine loop_sim (Rel := fun (st : (Sl Point) × Int) tm h25 => match st with | (w24, w27) => tm = ((AV.agg [Sl.enc s_.points]) :: (AV.ptr o1 1 0 0) :: (AV.ptr o5 1 0 0) :: (iv 0) :: (AV.ptr o18 1 0 0) :: (iv w27) :: AV.top :: AV.top :: AV.top :: (AV.agg [Sl.enc s_.points]) :: (bv c9) :: (bv (!c9)) :: und :: (AV.ptr o1 1 0 0) :: (Sl.enc s_.points) :: x15 :: (AV.agg [x15]) :: AV.top :: AV.top :: AV.top :: AV.top :: AV.top :: AV.top :: AV.top :: AV.top :: AV.top :: AV.top :: AV.top :: AV.top :: AV.top :: AV.top :: AV.top :: AV.top :: AV.top :: AV.top :: AV.top :: AV.top :: AV.top :: AV.top :: AV.top :: AV.top :: AV.top :: AV.top :: AV.top :: AV.top :: AV.top :: AV.top :: AV.top :: AV.top :: AV.top :: AV.top :: AV.top :: AV.top :: AV.top :: AV.top :: AV.top :: AV.top :: AV.top :: AV.top :: AV.top :: AV.top :: AV.top :: AV.top :: AV.top :: AV.top :: AV.top :: AV.top :: AV.top :: AV.top :: AV.top :: AV.top :: AV.top :: und :: []) ∧ Hold B h25 [(AV.ptr o1 1 0 0, .pt 1 [Sl.enc s_.points]), (AV.ptr o5 1 0 0, .pt 1 [nilS]), (x15, obS (w24 : Sl Point)), (AV.ptr o18 1 0 0, .pt 1 [x15])]) (fun st tm h25 R => ?_) R
  obtain ⟨w24, w27⟩ := st
  obtain ⟨rfl, O26⟩ := R
  rw [e_lb0_impl_SmoothStroke]
  unfold s0_impl_SmoothStroke
  dsimp only
  refine sim_let (v := iv (wr (w27 + 1))) (aBin_add _ _) ?_
  refine sim_let (v := AV.ptr o1 1 0 0) rfl ?_
  refine sim_let (v := Sl.enc s_.points) (O26.ld 0 rfl false 1 0) ?_
  refine sim_let (v := iv (((s_.points.getD []).length : Nat) : Int)) (Tab.enc h25 s_.points).len ?_
  refine sim_let (v := bv (decide ((wr (w27 + 1)) < (((s_.points.getD []).length : Nat) : Int)))) (aBin_lss _ _) ?_
  refine sim_cond (fun c38 => ?_) (fun c38 => ?_)
  · refine sim_let (v := AV.ptr o1 1 0 0) rfl ?_
    refine sim_let (v := Sl.enc s_.points) (O26.ld 0 rfl false 1 0) ?_
    refine sim_let (v := iv (wr (w27 - 1))) (aBin_sub _ _) ?_
    refine sim_get (Tab.enc h25 s_.points) (fun m40 a39 hi41 hm42 => ?_)
    refine sim_let (v := AV.agg [iv a39.x, iv a39.y, iv a39.t]) ((Tab.enc h25 s_.points).ld hm42 true 3 0) ?_
    refine sim_let (v := AV.ptr o1 1 0 0) rfl ?_
    refine sim_let (v := Sl.enc s_.points) (O26.ld 0 rfl false 1 0) ?_
    refine sim_get (Tab.enc h25 s_.points) (fun m44 a43 hi45 hm46 => ?_)
    refine sim_let (v := AV.agg [iv a43.x, iv a43.y, iv a43.t]) ((Tab.enc h25 s_.points).ld hm46 true 3 0) ?_
    refine sim_let (v := AV.ptr o1 1 0 0) rfl ?_
    refine sim_let (v := Sl.enc s_.points) (O26.ld 0 rfl false 1 0) ?_
    refine sim_let (v := iv (wr (w27 + 1))) (aBin_add _ _) ?_
    refine sim_get (Tab.enc h25 s_.points) (fun m48 a47 hi49 hm50 => ?_)
    refine sim_let (v := AV.agg [iv a47.x, iv a47.y, iv a47.t]) ((Tab.enc h25 s_.points).ld hm50 true 3 0) ?_
    refine sim_box O26 (cs := [iv 0, iv 0, iv 0]) (by first | rfl | simp) (fun o51 h52 O53 => ?_)
    replace O53 : Hold B h52 [(AV.ptr o1 1 0 0, .pt 1 [Sl.enc s_.points]), (AV.ptr o5 1 0 0, .pt 1 [nilS]), (x15, obS (w24 : Sl Point)), (AV.ptr o18 1 0 0, .pt 1 [x15]), (AV.ptr o51 1 0 0, .pt 3 [iv 0, iv 0, iv 0])] := O53
    refine sim_box O53 (cs := [iv 0, iv 0, iv 0]) (by first | rfl | simp) (fun o55 h56 O57 => ?_)
    replace O57 : Hold B h56 [(AV.ptr o1 1 0 0, .pt 1 [Sl.enc s_.points]), (AV.ptr o5 1 0 0, .pt 1 [nilS]), (x15, obS (w24 : Sl Point)), (AV.ptr o18 1 0 0, .pt 1 [x15]), (AV.ptr o51 1 0 0, .pt 3 [iv 0, iv 0, iv 0]), (AV.ptr o55 1 0 0, .pt 3 [iv 0, iv 0, iv 0])] := O57
    refine sim_box O57 (cs := [iv 0, iv 0, iv 0]) (by first | rfl | simp) (fun o59 h60 O61 => ?_)
    replace O61 : Hold B h60 [(AV.ptr o1 1 0 0, .pt 1 [Sl.enc s_.points]), (AV.ptr o5 1 0 0, .pt 1 [nilS]), (x15, obS (w24 : Sl Point)), (AV.ptr o18 1 0 0, .pt 1 [x15]), (AV.ptr o51 1 0 0, .pt 3 [iv 0, iv 0, iv 0]), (AV.ptr o55 1 0 0, .pt 3 [iv 0, iv 0, iv 0]), (AV.ptr o59 1 0 0, .pt 3 [iv 0, iv 0, iv 0])] := O61
    refine sim_store O61 4 (cs' := [iv a39.x, iv a39.y, iv a39.t]) rfl (by first | rfl | simp) (by simp) (by first | rfl | simp) (by first | rfl | simp [splice]) (fun h63 O64 => ?_)
    replace O64 : Hold B h63 [(AV.ptr o1 1 0 0, .pt 1 [Sl.enc s_.points]), (AV.ptr o5 1 0 0, .pt 1 [nilS]), (x15, obS (w24 : Sl Point)), (AV.ptr o18 1 0 0, .pt 1 [x15]), (AV.ptr o51 1 0 0, .pt 3 [iv a39.x, iv a39.y, iv a39.t]), (AV.ptr o55 1 0 0, .pt 3 [iv 0, iv 0, iv 0]), (AV.ptr o59 1 0 0, .pt 3 [iv 0, iv 0, iv 0])] := O64
    refine sim_store O64 5 (cs' := [iv a43.x, iv a43.y, iv a43.t]) rfl (by first | rfl | simp) (by simp) (by first | rfl | simp) (by first | rfl | simp [splice]) (fun h65 O66 => ?_)
    replace O66 : Hold B h65 [(AV.ptr o1 1 0 0, .pt 1 [Sl.enc s_.points]), (AV.ptr o5 1 0 0, .pt 1 [nilS]), (x15, obS (w24 : Sl Point)), (AV.ptr o18 1 0 0, .pt 1 [x15]), (AV.ptr o51 1 0 0, .pt 3 [iv a39.x, iv a39.y, iv a39.t]), (AV.ptr o55 1 0 0, .pt 3 [iv a43.x, iv a43.y, iv a43.t]), (AV.ptr o59 1 0 0, .pt 3 [iv 0, iv 0, iv 0])] := O66
    refine sim_store O66 6 (cs' := [iv a47.x, iv a47.y, iv a47.t]) rfl (by first | rfl | simp) (by simp) (by first | rfl | simp) (by first | rfl | simp [splice]) (fun h67 O68 => ?_)
    replace O68 : Hold B h67 [(AV.ptr o1 1 0 0, .pt 1 [Sl.enc s_.points]), (AV.ptr o5 1 0 0, .pt 1 [nilS]), (x15, obS (w24 : Sl Point)), (AV.ptr o18 1 0 0, .pt 1 [x15]), (AV.ptr o51 1 0 0, .pt 3 [iv a39.x, iv a39.y, iv a39.t]), (AV.ptr o55 1 0 0, .pt 3 [iv a43.x, iv a43.y, iv a43.t]), (AV.ptr o59 1 0 0, .pt 3 [iv a47.x, iv a47.y, iv a47.t])] := O68
    refine sim_guardP ⟨⟨(at_of (v := Sl.enc s_.points) (O26.ld 0 rfl false 1 0)), ⟨(at_of (v := Sl.enc s_.points) (O53.ld 0 rfl false 1 0)), ⟨(at_of (v := Sl.enc s_.points) (O57.ld 0 rfl false 1 0)), ⟨(at_of (v := Sl.enc s_.points) (O61.ld 0 rfl false 1 0)), ⟨(at_of (v := Sl.enc s_.points) (O64.ld 0 rfl false 1 0)), ⟨(at_of (v := Sl.enc s_.points) (O66.ld 0 rfl false 1 0)), ⟨(at_of (v := Sl.enc s_.points) (O68.ld 0 rfl false 1 0)), trivial⟩⟩⟩⟩⟩⟩⟩, ⟨⟨(at_of (((Tab.enc h25 s_.points)).ixm hi41 hm42)), ⟨(at_of (((Tab.enc h52 s_.points)).ixm hi41 hm42)), ⟨(at_of (((Tab.enc h56 s_.points)).ixm hi41 hm42)), ⟨(at_of (((Tab.enc h60 s_.points)).ixm hi41 hm42)), ⟨(at_of (((Tab.enc h63 s_.points)).ixm hi41 hm42)), ⟨(at_of (((Tab.enc h65 s_.points)).ixm hi41 hm42)), ⟨(at_of (((Tab.enc h67 s_.points)).ixm hi41 hm42)), trivial⟩⟩⟩⟩⟩⟩⟩, ⟨⟨(at_of (v := AV.agg [iv a39.x, iv a39.y, iv a39.t]) ((Tab.enc h25 s_.points).ld hm42 true 3 0)), ⟨(at_of (v := AV.agg [iv a39.x, iv a39.y, iv a39.t]) ((Tab.enc h52 s_.points).ld hm42 true 3 0)), ⟨(at_of (v := AV.agg [iv a39.x, iv a39.y, iv a39.t]) ((Tab.enc h56 s_.points).ld hm42 true 3 0)), ⟨(at_of (v := AV.agg [iv a39.x, iv a39.y, iv a39.t]) ((Tab.enc h60 s_.points).ld hm42 true 3 0)), ⟨(at_of (v := AV.agg [iv a39.x, iv a39.y, iv a39.t]) ((Tab.enc h63 s_.points).ld hm42 true 3 0)), ⟨(at_of (v := AV.agg [iv a39.x, iv a39.y, iv a39.t]) ((Tab.enc h65 s_.points).ld hm42 true 3 0)), ⟨(at_of (v := AV.agg [iv a39.x, iv a39.y, iv a39.t]) ((Tab.enc h67 s_.points).ld hm42 true 3 0)), trivial⟩⟩⟩⟩⟩⟩⟩, ⟨⟨(at_of (v := Sl.enc s_.points) (O26.ld 0 rfl false 1 0)), ⟨(at_of (v := Sl.enc s_.points) (O53.ld 0 rfl false 1 0)), ⟨(at_of (v := Sl.enc s_.points) (O57.ld 0 rfl false 1 0)), ⟨(at_of (v := Sl.enc s_.points) (O61.ld 0 rfl false 1 0)), ⟨(at_of (v := Sl.enc s_.points) (O64.ld 0 rfl false 1 0)), ⟨(at_of (v := Sl.enc s_.points) (O66.ld 0 rfl false 1 0)), ⟨(at_of (v := Sl.enc s_.points) (O68.ld 0 rfl false 1 0)), trivial⟩⟩⟩⟩⟩⟩⟩, ⟨⟨(at_of (((Tab.enc h25 s_.points)).ixm hi45 hm46)), ⟨(at_of (((Tab.enc h52 s_.points)).ixm hi45 hm46)), ⟨(at_of (((Tab.enc h56 s_.points)).ixm hi45 hm46)), ⟨(at_of (((Tab.enc h60 s_.points)).ixm hi45 hm46)), ⟨(at_of (((Tab.enc h63 s_.points)).ixm hi45 hm46)), ⟨(at_of (((Tab.enc h65 s_.points)).ixm hi45 hm46)), ⟨(at_of (((Tab.enc h67 s_.points)).ixm hi45 hm46)), trivial⟩⟩⟩⟩⟩⟩⟩, ⟨⟨(at_of (v := AV.agg [iv a43.x, iv a43.y, iv a43.t]) ((Tab.enc h25 s_.points).ld hm46 true 3 0)), ⟨(at_of (v := AV.agg [iv a43.x, iv a43.y, iv a43.t]) ((Tab.enc h52 s_.points).ld hm46 true 3 0)), ⟨(at_of (v := AV.agg [iv a43.x, iv a43.y, iv a43.t]) ((Tab.enc h56 s_.points).ld hm46 true 3 0)), ⟨(at_of (v := AV.agg [iv a43.x, iv a43.y, iv a43.t]) ((Tab.enc h60 s_.points).ld hm46 true 3 0)), ⟨(at_of (v := AV.agg [iv a43.x, iv a43.y, iv a43.t]) ((Tab.enc h63 s_.points).ld hm46 true 3 0)), ⟨(at_of (v := AV.agg [iv a43.x, iv a43.y, iv a43.t]) ((Tab.enc h65 s_.points).ld hm46 true 3 0)), ⟨(at_of (v := AV.agg [iv a43.x, iv a43.y, iv a43.t]) ((Tab.enc h67 s_.points).ld hm46 true 3 0)), trivial⟩⟩⟩⟩⟩⟩⟩, ⟨⟨(at_of (v := Sl.enc s_.points) (O26.ld 0 rfl false 1 0)), ⟨(at_of (v := Sl.enc s_.points) (O53.ld 0 rfl false 1 0)), ⟨(at_of (v := Sl.enc s_.points) (O57.ld 0 rfl false 1 0)), ⟨(at_of (v := Sl.enc s_.points) (O61.ld 0 rfl false 1 0)), ⟨(at_of (v := Sl.enc s_.points) (O64.ld 0 rfl false 1 0)), ⟨(at_of (v := Sl.enc s_.points) (O66.ld 0 rfl false 1 0)), ⟨(at_of (v := Sl.enc s_.points) (O68.ld 0 rfl false 1 0)), trivial⟩⟩⟩⟩⟩⟩⟩, ⟨⟨(at_of (((Tab.enc h25 s_.points)).ixm hi49 hm50)), ⟨(at_of (((Tab.enc h52 s_.points)).ixm hi49 hm50)), ⟨(at_of (((Tab.enc h56 s_.points)).ixm hi49 hm50)), ⟨(at_of (((Tab.enc h60 s_.points)).ixm hi49 hm50)), ⟨(at_of (((Tab.enc h63 s_.points)).ixm hi49 hm50)), ⟨(at_of (((Tab.enc h65 s_.points)).ixm hi49 hm50)), ⟨(at_of (((Tab.enc h67 s_.points)).ixm hi49 hm50)), trivial⟩⟩⟩⟩⟩⟩⟩, ⟨⟨(at_of (v := AV.agg [iv a47.x, iv a47.y, iv a47.t]) ((Tab.enc h25 s_.points).ld hm50 true 3 0)), ⟨(at_of (v := AV.agg [iv a47.x, iv a47.y, iv a47.t]) ((Tab.enc h52 s_.points).ld hm50 true 3 0)), ⟨(at_of (v := AV.agg [iv a47.x, iv a47.y, iv a47.t]) ((Tab.enc h56 s_.points).ld hm50 true 3 0)), ⟨(at_of (v := AV.agg [iv a47.x, iv a47.y, iv a47.t]) ((Tab.enc h60 s_.points).ld hm50 true 3 0)), ⟨(at_of (v := AV.agg [iv a47.x, iv a47.y, iv a47.t]) ((Tab.enc h63 s_.points).ld hm50 true 3 0)), ⟨(at_of (v := AV.agg [iv a47.x, iv a47.y, iv a47.t]) ((Tab.enc h65 s_.points).ld hm50 true 3 0)), ⟨(at_of (v := AV.agg [iv a47.x, iv a47.y, iv a47.t]) ((Tab.enc h67 s_.points).ld hm50 true 3 0)), trivial⟩⟩⟩⟩⟩⟩⟩, trivial⟩⟩⟩⟩⟩⟩⟩⟩⟩ ?_
    refine sim_let (v := AV.ptr o18 1 0 0) rfl ?_
    refine sim_let (v := x15) (O68.ld 3 rfl false 1 0) ?_
    refine sim_let (v := AV.ptr o51 1 0 0) rfl ?_
    refine sim_let (v := iv a39.x) (O68.ld 4 rfl false 1 0) ?_
    refine sim_let (v := AV.ptr o55 1 0 0) rfl ?_
    refine sim_let (v := iv a43.x) (O68.ld 5 rfl false 1 0) ?_
    refine sim_let (v := iv (wr (2 * a43.x))) (aBin_mul _ _) ?_
    refine sim_let (v := iv (wr (a39.x + (wr (2 * a43.x))))) (aBin_add _ _) ?_
    refine sim_let (v := AV.ptr o59 1 0 0) rfl ?_
    refine sim_let (v := iv a47.x) (O68.ld 6 rfl false 1 0) ?_
    refine sim_let (v := iv (wr ((wr (a39.x + (wr (2 * a43.x)))) + a47.x))) (aBin_add _ _) ?_
    refine sim_call2 he_impl_nearestDiv (snapD_int _ _) (snapD_int _ _) (fun c69 => ?_)
    refine sim_let2 (hand_plain (by rfl) _ _) ?_
    refine sim_guardP (Nat.le_refl _) ?_
    refine sim_get (O68.tab (A := Point) (s := w24) 2 rfl) (fun m71 a70 hi72 hm73 => ?_)
    refine sim_let (v := elp x15 m71 0) ((O68.tab (A := Point) (s := w24) 2 rfl).fld _ _ _) ?_
    refine sim_set (A := Point) O68 2 (⟨c69, a70.y, a70.t⟩ : Point) rfl hi72 hm73 rfl (by simp) (by first | rfl | simp) (by first | rfl | simp [splice]) (fun h74 O75 => ?_)
    replace O75 : Hold B h74 [(AV.ptr o1 1 0 0, .pt 1 [Sl.enc s_.points]), (AV.ptr o5 1 0 0, .pt 1 [nilS]), (x15, obS ((setS w24 w27 (⟨c69, a70.y, a70.t⟩ : Point)) : Sl Point)), (AV.ptr o18 1 0 0, .pt 1 [x15]), (AV.ptr o51 1 0 0, .pt 3 [iv a39.x, iv a39.y, iv a39.t]), (AV.ptr o55 1 0 0, .pt 3 [iv a43.x, iv a43.y, iv a43.t]), (AV.ptr o59 1 0 0, .pt 3 [iv a47.x, iv a47.y, iv a47.t])] := O75
    refine sim_guardP ⟨⟨(at_of (v := x15) (O68.ld 3 rfl false 1 0)), ⟨(at_of (v := x15) (O68.ld 3 rfl false 1 0)), ⟨(at_of (v := x15) (O75.ld 3 rfl false 1 0)), trivial⟩⟩⟩, ⟨⟨(at_of (v := iv a39.x) (O68.ld 4 rfl false 1 0)), ⟨(at_of (v := iv a39.x) (O68.ld 4 rfl false 1 0)), ⟨(at_of (v := iv a39.x) (O75.ld 4 rfl false 1 0)), trivial⟩⟩⟩, ⟨⟨(at_of (v := iv a43.x) (O68.ld 5 rfl false 1 0)), ⟨(at_of (v := iv a43.x) (O68.ld 5 rfl false 1 0)), ⟨(at_of (v := iv a43.x) (O75.ld 5 rfl false 1 0)), trivial⟩⟩⟩, ⟨⟨(at_of (v := iv a47.x) (O68.ld 6 rfl false 1 0)), ⟨(at_of (v := iv a47.x) (O68.ld 6 rfl false 1 0)), ⟨(at_of (v := iv a47.x) (O75.ld 6 rfl false 1 0)), trivial⟩⟩⟩, ⟨⟨(at_of (((O68.tab (A := Point) (s := w24) 2 rfl)).ixm hi72 hm73)), ⟨(at_of (((O68.tab (A := Point) (s := w24) 2 rfl)).ixm hi72 hm73)), ⟨(at_of (((O75.tab (A := Point) (s := (setS w24 w27 (⟨c69, a70.y, a70.t⟩ : Point))) 2 rfl)).ixl hi72 (by have e := (List.getElem?_eq_some_iff.1 hm73).1; simp only [setS_len] at e ⊢; exact e))), trivial⟩⟩⟩, trivial⟩⟩⟩⟩⟩ ?_
    refine sim_let (v := AV.ptr o18 1 0 0) rfl ?_
    refine sim_let (v := x15) (O75.ld 3 rfl false 1 0) ?_
    refine sim_let (v := AV.ptr o51 1 0 1) rfl ?_
    refine sim_let (v := iv a39.y) (O75.ld 4 rfl false 1 1) ?_
    refine sim_let (v := AV.ptr o55 1 0 1) rfl ?_
    refine sim_let (v := iv a43.y) (O75.ld 5 rfl false 1 1) ?_
    refine sim_let (v := iv (wr (2 * a43.y))) (aBin_mul _ _) ?_
    refine sim_let (v := iv (wr (a39.y + (wr (2 * a43.y))))) (aBin_add _ _) ?_
    refine sim_let (v := AV.ptr o59 1 0 1) rfl ?_
    refine sim_let (v := iv a47.y) (O75.ld 6 rfl false 1 1) ?_
    refine sim_let (v := iv (wr ((wr (a39.y + (wr (2 * a43.y)))) + a47.y))) (aBin_add _ _) ?_
    refine sim_call2 he_impl_nearestDiv (snapD_int _ _) (snapD_int _ _) (fun c76 => ?_)
    refine sim_let2 (hand_plain (by rfl) _ _) ?_
    refine sim_guardP (Nat.le_refl _) ?_
    refine sim_get (O75.tab (A := Point) (s := (setS w24 w27 (⟨c69, a70.y, a70.t⟩ : Point))) 2 rfl) (fun m78 a77 hi79 hm80 => ?_)
    refine sim_let (v := elp x15 m78 1) ((O75.tab (A := Point) (s := (setS w24 w27 (⟨c69, a70.y, a70.t⟩ : Point))) 2 rfl).fld _ _ _) ?_
    refine sim_set (A := Point) O75 2 (⟨a77.x, c76, a77.t⟩ : Point) rfl hi79 hm80 rfl (by simp) (by first | rfl | simp) (by first | rfl | simp [splice]) (fun h81 O82 => ?_)
    replace O82 : Hold B h81 [(AV.ptr o1 1 0 0, .pt 1 [Sl.enc s_.points]), (AV.ptr o5 1 0 0, .pt 1 [nilS]), (x15, obS ((setS (setS w24 w27 (⟨c69, a70.y, a70.t⟩ : Point)) w27 (⟨a77.x, c76, a77.t⟩ : Point)) : Sl Point)), (AV.ptr o18 1 0 0, .pt 1 [x15]), (AV.ptr o51 1 0 0, .pt 3 [iv a39.x, iv a39.y, iv a39.t]), (AV.ptr o55 1 0 0, .pt 3 [iv a43.x, iv a43.y, iv a43.t]), (AV.ptr o59 1 0 0, .pt 3 [iv a47.x, iv a47.y, iv a47.t])] := O82
    refine sim_guardP ⟨⟨(at_of (v := x15) (O75.ld 3 rfl false 1 0)), ⟨(at_of (v := x15) (O75.ld 3 rfl false 1 0)), ⟨(at_of (v := x15) (O82.ld 3 rfl false 1 0)), trivial⟩⟩⟩, ⟨⟨(at_of (v := iv a39.y) (O75.ld 4 rfl false 1 1)), ⟨(at_of (v := iv a39.y) (O75.ld 4 rfl false 1 1)), ⟨(at_of (v := iv a39.y) (O82.ld 4 rfl false 1 1)), trivial⟩⟩⟩, ⟨⟨(at_of (v := iv a43.y) (O75.ld 5 rfl false 1 1)), ⟨(at_of (v := iv a43.y) (O75.ld 5 rfl false 1 1)), ⟨(at_of (v := iv a43.y) (O82.ld 5 rfl false 1 1)), trivial⟩⟩⟩, ⟨⟨(at_of (v := iv a47.y) (O75.ld 6 rfl false 1 1)), ⟨(at_of (v := iv a47.y) (O75.ld 6 rfl false 1 1)), ⟨(at_of (v := iv a47.y) (O82.ld 6 rfl false 1 1)), trivial⟩⟩⟩, ⟨⟨(at_of (((O75.tab (A := Point) (s := (setS w24 w27 (⟨c69, a70.y, a70.t⟩ : Point))) 2 rfl)).ixm hi79 hm80)), ⟨(at_of (((O75.tab (A := Point) (s := (setS w24 w27 (⟨c69, a70.y, a70.t⟩ : Point))) 2 rfl)).ixm hi79 hm80)), ⟨(at_of (((O82.tab (A := Point) (s := (setS (setS w24 w27 (⟨c69, a70.y, a70.t⟩ : Point)) w27 (⟨a77.x, c76, a77.t⟩ : Point))) 2 rfl)).ixl hi79 (by have e := (List.getElem?_eq_some_iff.1 hm80).1; simp only [setS_len] at e ⊢; exact e))), trivial⟩⟩⟩, trivial⟩⟩⟩⟩⟩ ?_
    refine sim_let (v := iv (wr (w27 + 1))) (aBin_add _ _) ?_
    have O83 : Hold B h81 [(AV.ptr o1 1 0 0, .pt 1 [Sl.enc s_.points]), (AV.ptr o5 1 0 0, .pt 1 [nilS]), (x15, obS ((setS (setS w24 w27 (⟨c69, a70.y, a70.t⟩ : Point)) w27 (⟨a77.x, c76, a77.t⟩ : Point)) : Sl Point)), (AV.ptr o18 1 0 0, .pt 1 [x15])] := O82.sel [0, 1, 2, 3] (by decide) rfl
    exact sim_ret ⟨rfl, rfl, O83⟩
  · exact sim_ret ⟨nofun, _, _, _, _, _, rfl, O26⟩
theorem ts_impl_SmoothStroke (env : Nat → Contract) (he_impl_ValidStroke : env n_impl_ValidStroke = .pure (C1 (fun c : Bool => enc c) t_impl_ValidStroke)) (he_impl_nearestDiv : env n_impl_nearestDiv = .pure (C2 (fun c : Int => enc c) t_impl_nearestDiv)) (he_slices_Clone_impl_Point_impl_Point : env n_slices_Clone_impl_Point_impl_Point = .pure (C1 (fun c : (Sl Point) => rS c) t_slices_Clone_impl_Point_impl_Point)) (s_ : Stroke) : Sim (denFnM true Try.prog env n_impl_SmoothStroke [AV.agg [Sl.enc s_.points]] []) (t_impl_SmoothStroke s_) fun c p => release p.2 depth p.1 = some ((fun c : Stroke × Int => AV.tup [AV.agg [rS c.1.points], enc c.2]) c) := by
  have O := Hold.nil []
  generalize hB : (⟨[], []⟩ : Base) = B at O
  clear hB
  rw [e_impl_SmoothStroke]
  unfold t_impl_SmoothStroke
  refine sim_box O (cs := [Sl.enc s_.points]) (by first | rfl | simp) (fun o1 h2 O3 => ?_)
  replace O3 : Hold B h2 [(AV.ptr o1 1 0 0, .pt 1 [Sl.enc s_.points])] := O3
  refine sim_box O3 (cs := [nilS]) (by first | rfl | simp) (fun o5 h6 O7 => ?_)
  replace O7 : Hold B h6 [(AV.ptr o1 1 0 0, .pt 1 [Sl.enc s_.points]), (AV.ptr o5 1 0 0, .pt 1 [nilS])] := O7
  refine sim_let (v := AV.agg [Sl.enc s_.points]) (O7.ld 0 rfl true 1 0) ?_
  refine sim_call1 he_impl_ValidStroke (snapD_nr _ s_ rfl) (fun c9 => ?_)
  refine sim_let2 (hand_plain (by rfl) _ _) ?_
  refine sim_let (v := bv (!c9)) (aUn_not _) ?_
  refine sim_cond (fun c10 => ?_) (fun c10 => ?_)
  · refine sim_let (v := AV.agg [nilS]) (by first | rfl | simp [aBuild, aFill, splice]) ?_
    refine sim_store O7 1 (cs' := [nilS]) rfl (by first | rfl | simp) (by simp) (by first | rfl | simp) (by first | rfl | simp [splice]) (fun h11 O12 => ?_)
    replace O12 : Hold B h11 [(AV.ptr o1 1 0 0, .pt 1 [Sl.enc s_.points]), (AV.ptr o5 1 0 0, .pt 1 [nilS])] := O12
    refine sim_retL (resL_c (v := AV.agg [nilS]) (O12.ld 1 rfl true 1 0) (resL_v (v := iv 1) (resL_nil _))) ?_
    dsimp only [pack]
    exact sim_ret (release_plain (by rfl) _)
  · refine sim_let (v := AV.ptr o1 1 0 0) rfl ?_
    refine sim_let (v := Sl.enc s_.points) (O7.ld 0 rfl false 1 0) ?_
    refine sim_call1 he_slices_Clone_impl_Point_impl_Point (snapD_enc _ _) (fun c13 => ?_)
    refine sim_hand (A := Point) O7 (fun x15 h16 O17 => ?_)
    replace O17 : Hold B h16 [(AV.ptr o1 1 0 0, .pt 1 [Sl.enc s_.points]), (AV.ptr o5 1 0 0, .pt 1 [nilS]), (x15, obS (c13 : Sl Point))] := O17
    refine sim_let (v := AV.agg [x15]) (by first | rfl | simp [aBuild, aFill, splice, (O17.one (A := Point) (s := c13) 2 rfl).1, (O17.one (A := Point) (s := c13) 2 rfl).2]) ?_
    refine sim_box O17 (cs := [nilS]) (by first | rfl | simp) (fun o18 h19 O20 => ?_)
    replace O20 : Hold B h19 [(AV.ptr o1 1 0 0, .pt 1 [Sl.enc s_.points]), (AV.ptr o5 1 0 0, .pt 1 [nilS]), (x15, obS (c13 : Sl Point)), (AV.ptr o18 1 0 0, .pt 1 [nilS])] := O20
    refine sim_store O20 3 (cs' := [x15]) rfl (by first | rfl | simp [(O20.one (A := Point) (s := c13) 2 rfl).1, (O20.one (A := Point) (s := c13) 2 rfl).2]) (by simp) (by first | rfl | simp [(O20.one (A := Point) (s := c13) 2 rfl).1, (O20.one (A := Point) (s := c13) 2 rfl).2]) (by first | rfl | simp [splice, (O20.one (A := Point) (s := c13) 2 rfl).1, (O20.one (A := Point) (s := c13) 2 rfl).2]) (fun h22 O23 => ?_)
    replace O23 : Hold B h22 [(AV.ptr o1 1 0 0, .pt 1 [Sl.enc s_.points]), (AV.ptr o5 1 0 0, .pt 1 [nilS]), (x15, obS (c13 : Sl Point)), (AV.ptr o18 1 0 0, .pt 1 [x15])] := O23
    refine sim_bind ((tl0_impl_SmoothStroke env he_impl_ValidStroke he_impl_nearestDiv he_slices_Clone_impl_Point_impl_Point s_ o1 o5 c9 x15 o18) ⟨rfl, O23⟩) (fun qq86 r hq => ?_)
    revert hq
    revert qq86
    intro q30 hq
    obtain ⟨q31, z32, z33, z34, h28, rfl, O29⟩ := hq
    rw [e_lk0x0_impl_SmoothStroke]
    refine sim_let (v := AV.agg [x15]) (O29.ld 3 rfl true 1 0) ?_
    refine sim_store O29 1 (cs' := [x15]) rfl (by first | rfl | simp [(O29.one (A := Point) (s := q30) 2 rfl).1, (O29.one (A := Point) (s := q30) 2 rfl).2]) (by simp) (by first | rfl | simp [(O29.one (A := Point) (s := q30) 2 rfl).1, (O29.one (A := Point) (s := q30) 2 rfl).2]) (by first | rfl | simp [splice, (O29.one (A := Point) (s := q30) 2 rfl).1, (O29.one (A := Point) (s := q30) 2 rfl).2]) (fun h35 O36 => ?_)
    replace O36 : Hold B h35 [(AV.ptr o1 1 0 0, .pt 1 [Sl.enc s_.points]), (AV.ptr o5 1 0 0, .pt 1 [x15]), (x15, obS (q30 : Sl Point)), (AV.ptr o18 1 0 0, .pt 1 [x15])] := O36
    refine sim_retL (resL_c (v := AV.agg [x15]) (O36.ld 1 rfl true 1 0) (resL_v (v := iv 0) (resL_nil _))) ?_
    dsimp only [pack]
    have O37 : Hold B h35 [(x15, obS (q30 : Sl Point))] := O36.sel [2] (by decide) rfl
    exact sim_ret (release_of (by simp only [ids_tup, ids_aggD, ids_agg, ids_iv, ids_bv, ids_sv, ids_bt, ids_nilS, ids_enc, O37.idsD (A := Point) (s := q30) 0 rfl, List.map_append, List.map_nil, List.flatMap_cons, List.flatMap_nil, List.append_nil, List.nil_append]; simpa only [List.flatMap_cons, List.flatMap_nil, List.append_nil, List.nil_append] using O37.nd2) (by simp only [rel_tup, rel_aggD, rel_agg, rel_iv, rel_bv, rel_sv, rel_bt, rel_nilS, rel_enc, O37.relD (A := Point) (s := q30) 0 rfl, omapc, omapn, obind_sm] <;> rfl))
theorem tt_impl_SmoothStroke : PureOK Try.prog n_impl_SmoothStroke (C1 (fun c : Stroke × Int => AV.tup [AV.agg [rS c.1.points], enc c.2]) t_impl_SmoothStroke) := pureCW1 (Econs tt_impl_ValidStroke (Econs tt_impl_nearestDiv (Econs tt_slices_Clone_impl_Point_impl_Point E0))) mixed hb_impl_SmoothStroke fun s_ => ts_impl_SmoothStroke _ (by simp [envL]) (by simp [envL]) (by simp [envL]) s_

def t_spec_l02OwnStroke (s_ : Stroke) : Option Stroke :=
  obind (appO (some ([] : List Point)) (s_.points.getD [])) fun _ =>
  some (⟨(appS (some ([] : List Point)) (s_.points.getD []))⟩ : Stroke)
def tp_spec_l02OwnStroke (s_p : Pt Stroke) : Option Stroke := obind s_p.get fun s_ => t_spec_l02OwnStroke s_

theorem ts_spec_l02OwnStroke (env : Nat → Contract)  (s_ : Stroke) {s_p : Pt Stroke} (hp_s_ : s_p.get = some s_) : Sim (denFn Try.prog env n_spec_l02OwnStroke [AV.fptr (Row.w Stroke) (s_p.tab.map Row.cells) s_p.i 0] []) (t_spec_l02OwnStroke s_) fun c p => release p.2 depth p.1 = some ((fun c : Stroke => AV.agg [rS c.points]) c) := by
  have O := Hold.nil []
  generalize hB : (⟨[], []⟩ : Base) = B at O
  clear hB
  rw [e_spec_l02OwnStroke]
  unfold t_spec_l02OwnStroke
  refine sim_box O (cs := [nilS]) (by first | rfl | simp) (fun o1 h2 O3 => ?_)
  replace O3 : Hold B h2 [(AV.ptr o1 1 0 0, .pt 1 [nilS])] := O3
  refine sim_build (A := Point) O3 ([] : List Point) rfl (by first | rfl | simp [aFillRows, zrows]) rfl (fun x5 h6 O7 => ?_)
  replace O7 : Hold B h6 [(AV.ptr o1 1 0 0, .pt 1 [nilS]), (x5, obS ((some ([] : List Point)) : Sl Point))] := O7
  refine sim_let (v := AV.fptr (Row.w Stroke) (s_p.tab.map Row.cells) s_p.i 0) rfl ?_
  refine sim_let (v := AV.fptr (Row.w Stroke) (s_p.tab.map Row.cells) s_p.i 0) rfl ?_
  refine sim_let (v := Sl.enc s_.points) (ld_pt hp_s_ false 1 0) ?_
  refine sim_append (A := Point) (s := (some ([] : List Point))) O7 1 (s_.points.getD []) rfl (src_enc _ _) (by decide) (fun x10 h11 O12 => ?_)
  replace O12 : Hold B h11 [(AV.ptr o1 1 0 0, .pt 1 [nilS]), (x10, obS ((appS (some ([] : List Point)) (s_.points.getD [])) : Sl Point))] := O12
  refine sim_let (v := AV.agg [x10]) (by first | rfl | simp [aBuild, aFill, splice, (O12.one (A := Point) (s := (appS (some ([] : List Point)) (s_.points.getD []))) 1 rfl).1, (O12.one (A := Point) (s := (appS (some ([] : List Point)) (s_.points.getD []))) 1 rfl).2]) ?_
  refine sim_store O12 0 (cs' := [x10]) rfl (by first | rfl | simp [(O12.one (A := Point) (s := (appS (some ([] : List Point)) (s_.points.getD []))) 1 rfl).1, (O12.one (A := Point) (s := (appS (some ([] : List Point)) (s_.points.getD []))) 1 rfl).2]) (by simp) (by first | rfl | simp [(O12.one (A := Point) (s := (appS (some ([] : List Point)) (s_.points.getD []))) 1 rfl).1, (O12.one (A := Point) (s := (appS (some ([] : List Point)) (s_.points.getD []))) 1 rfl).2]) (by first | rfl | simp [splice, (O12.one (A := Point) (s := (appS (some ([] : List Point)) (s_.points.getD []))) 1 rfl).1, (O12.one (A := Point) (s := (appS (some ([] : List Point)) (s_.points.getD []))) 1 rfl).2]) (fun h14 O15 => ?_)
  replace O15 : Hold B h14 [(AV.ptr o1 1 0 0, .pt 1 [x10]), (x10, obS ((appS (some ([] : List Point)) (s_.points.getD [])) : Sl Point))] := O15
  refine sim_retL (resL_c (v := AV.agg [x10]) (O15.ld 0 rfl true 1 0) (resL_nil _)) ?_
  dsimp only [pack]
  have O16 : Hold B h14 [(x10, obS ((appS (some ([] : List Point)) (s_.points.getD [])) : Sl Point))] := O15.sel [1] (by decide) rfl
  exact sim_ret (release_of (by simp only [ids_tup, ids_aggD, ids_agg, ids_iv, ids_bv, ids_sv, ids_bt, ids_nilS, ids_enc, O16.idsD (A := Point) (s := (appS (some ([] : List Point)) (s_.points.getD []))) 0 rfl, List.map_append, List.map_nil, List.flatMap_cons, List.flatMap_nil, List.append_nil, List.nil_append]; simpa only [List.flatMap_cons, List.flatMap_nil, List.append_nil, List.nil_append] using O16.nd2) (by simp only [rel_tup, rel_aggD, rel_agg, rel_iv, rel_bv, rel_sv, rel_bt, rel_nilS, rel_enc, O16.relD (A := Point) (s := (appS (some ([] : List Point)) (s_.points.getD []))) 0 rfl, omapc, omapn, obind_sm] <;> rfl))
theorem tt_spec_l02OwnStroke : PureOK Try.prog n_spec_l02OwnStroke (C1 (fun c : Stroke => AV.agg [rS c.points]) tp_spec_l02OwnStroke) := pureC1 E0 mixed hb_spec_l02OwnStroke fun s_p => sim_getP fun s_ hp_s_ => ts_spec_l02OwnStroke _  s_ hp_s_

def t_spec_l05Down (n_ : Int) (d_ : Int) : Option Int :=
  obind (quoI n_ d_) fun q1 =>
  obind (remI n_ d_) fun q2 =>
  bif decide (q2 < 0) then
    some (wr (q1 - 1))
  else
    some q1

theorem ts_spec_l05Down (env : Nat → Contract)  (n_ : Int) (d_ : Int) : Sim (denFn Try.prog env n_spec_l05Down [iv n_, iv d_] []) (t_spec_l05Down n_ d_) fun c p => release p.2 depth p.1 = some ((fun c : Int => enc c) c) := by
  have O := Hold.nil []
  generalize hB : (⟨[], []⟩ : Base) = B at O
  clear hB
  rw [e_spec_l05Down]
  unfold t_spec_l05Down
  refine sim_quo (fun q1 => ?_)
  refine sim_rem (fun q2 => ?_)
  refine sim_let (v := bv (decide (q2 < 0))) (aBin_lss _ _) ?_
  refine sim_cond (fun c3 => ?_) (fun c3 => ?_)
  · refine sim_let (v := iv (wr (q1 - 1))) (aBin_sub _ _) ?_
    exact sim_ret (release_plain (by rfl) _)
  · exact sim_ret (release_plain (by rfl) _)
theorem tt_spec_l05Down : PureOK Try.prog n_spec_l05Down (C2 (fun c : Int => enc c) t_spec_l05Down) := pureC2 E0 mixed hb_spec_l05Down fun n_ d_ => ts_spec_l05Down _  n_ d_

def t_spec_l05Near (n_ : Int) (d_ : Int) : Option Int :=
  obind (t_spec_l05Down (wr ((wr (2 * n_)) + d_)) (wr (2 * d_))) fun c1 =>
  some c1

theorem ts_spec_l05Near (env : Nat → Contract) (he_spec_l05Down : env n_spec_l05Down = .pure (C2 (fun c : Int => enc c) t_spec_l05Down)) (n_ : Int) (d_ : Int) : Sim (denFn Try.prog env n_spec_l05Near [iv n_, iv d_] []) (t_spec_l05Near n_ d_) fun c p => release p.2 depth p.1 = some ((fun c : Int => enc c) c) := by
  have O := Hold.nil []
  generalize hB : (⟨[], []⟩ : Base) = B at O
  clear hB
  rw [e_spec_l05Near]
  unfold t_spec_l05Near
  refine sim_let (v := iv (wr (2 * n_))) (aBin_mul _ _) ?_
  refine sim_let (v := iv (wr ((wr (2 * n_)) + d_))) (aBin_add _ _) ?_
  refine sim_let (v := iv (wr (2 * d_))) (aBin_mul _ _) ?_
  refine sim_call2 he_spec_l05Down (snapD_int _ _) (snapD_int _ _) (fun c1 => ?_)
  refine sim_let2 (hand_plain (by rfl) _ _) ?_
  exact sim_ret (release_plain (by rfl) _)
theorem tt_spec_l05Near : PureOK Try.prog n_spec_l05Near (C2 (fun c : Int => enc c) t_spec_l05Near) := pureC2 (Econs tt_spec_l05Down E0) mixed hb_spec_l05Near fun n_ d_ => ts_spec_l05Near _ (by simp [envL]) n_ d_

def s0_spec_SmoothStroke (s_ : Stroke) : ((Sl Point) × Int) → Option (Sum ((Sl Point) × Int) (Sl Point)) := fun (w24, w27) =>
  bif decide ((wr (w27 + 1)) < (((s_.points.getD []).length : Nat) : Int)) then
    obind (getI (s_.points.getD []) (wr (w27 - 1))) fun a39 =>
    obind (getI (s_.points.getD []) w27) fun a49 =>
    obind (getI (s_.points.getD []) (wr (w27 + 1))) fun a59 =>
    obind (t_spec_l05Near (wr ((wr (a39.x + (wr (2 * a49.x)))) + a59.x)) 4) fun c69 =>
    obind (t_spec_l05Near (wr ((wr (a39.y + (wr (2 * a49.y)))) + a59.y)) 4) fun c70 =>
    obind (getI (w24.getD []) w27) fun a71 =>
    some (.inl ((setS w24 w27 (⟨c69, c70, a49.t⟩ : Point)), wr (w27 + 1)))
  else
    some (.inr w24)
def t_spec_SmoothStroke (s_ : Stroke) : Option (Stroke × Int) :=
  obind (t_spec_l02Stroke s_) fun c9 =>
  bif !c9 then
    some ((⟨(none : Sl Point)⟩ : Stroke), 1)
  else
    obind (t_spec_l02OwnStroke s_) fun c13 =>
    obind (loopT (s0_spec_SmoothStroke s_) (c13.points, 1)) fun q30 =>
    some ((⟨q30⟩ : Stroke), 0)

theorem tl0_spec_SmoothStroke (env : Nat → Contract) {B : Base} (he_spec_l02OwnStroke : env n_spec_l02OwnStroke = .pure (C1 (fun c : Stroke => AV.agg [rS c.points]) tp_spec_l02OwnStroke)) (he_spec_l02Stroke : env n_spec_l02Stroke = .pure (C1 (fun c : Bool => enc c) tp_spec_l02Stroke)) (he_spec_l05Near : env n_spec_l05Near = .pure (C2 (fun c : Int => enc c) t_spec_l05Near)) (s_ : Stroke) (o1 : Nat) (o5 : Nat) (c9 : Bool) (x15 : AV) (o18 : Nat)  {st : (Sl Point) × Int} {tm : TM} {h : Heap} (R : (fun (st : (Sl Point) × Int) tm h25 => match st with | (w24, w27) => tm = ((AV.agg [Sl.enc s_.points]) :: (AV.ptr o1 1 0 0) :: (AV.ptr o5 1 0 0) :: (iv 0) :: (AV.ptr o18 1 0 0) :: (iv w27) :: AV.top :: AV.top :: AV.top :: (bv c9) :: (bv (!c9)) :: und :: (AV.agg [x15]) :: AV.top :: AV.top :: AV.top :: AV.top :: AV.top :: AV.top :: AV.top :: AV.top :: AV.top :: AV.top :: AV.top :: AV.top :: AV.top :: AV.top :: AV.top :: AV.top :: AV.top :: AV.top :: AV.top :: AV.top :: AV.top :: AV.top :: AV.top :: AV.top :: AV.top :: AV.top :: AV.top :: AV.top :: AV.top :: AV.top :: AV.top :: AV.top :: AV.top :: AV.top :: AV.top :: AV.top :: AV.top :: AV.top :: AV.top :: AV.top :: AV.top :: AV.top :: AV.top :: AV.top :: AV.top :: AV.top :: AV.top :: AV.top :: AV.top :: AV.top :: AV.top :: AV.top :: und :: []) ∧ Hold B h25 [(AV.ptr o1 1 0 0, .pt 1 [Sl.enc s_.points]), (AV.ptr o5 1 0 0, .pt 1 [nilS]), (x15, obS (w24 : Sl Point)), (AV.ptr o18 1 0 0, .pt 1 [x15])]) st tm h) : Sim (loopP hm0_spec_SmoothStroke xm0_spec_SmoothStroke (lb0_spec_SmoothStroke env) tm h) (loopT (s0_spec_SmoothStroke s_) st) (fun (q : Sl Point) (r : Res) => match q with | q30 => ∃ (q31 : Int) (z32 : AV) (z33 : AV) (z34 : AV) (h28 : Heap), r = (.exit 0, ((AV.agg [Sl.enc s_.points]) :: (AV.ptr o1 1 0 0) :: (AV.ptr o5 1 0 0) :: (iv 0) :: (AV.ptr o18 1 0 0) :: (iv q31) :: z32 :: z33 :: z34 :: (bv c9) :: (bv (!c9)) :: und :: (AV.agg [x15]) :: AV.top :: AV.top :: AV.top :: AV.top :: AV.top :: AV.top :: AV.top :: AV.top :: AV.top :: AV.top :: AV.top :: AV.top :: AV.top :: AV.top :: AV.top :: AV.top :: AV.top :: AV.top :: AV.top :: AV.top :: AV.top :: AV.top :: AV.top :: AV.top :: AV.top :: AV.top :: AV.top :: AV.top :: AV.top :: AV.top :: AV.top :: AV.top :: AV.top :: AV.top :: AV.top :: AV.top :: AV.top :: AV.top :: AV.top :: AV.top :: AV.top :: AV.top :: AV.top :: AV.top :: AV.top :: AV.top :: AV.top :: AV.top :: AV.top :: AV.top :: AV.top :: AV.top :: und :: []), h28) ∧ Hold B h28 [(AV.ptr o1 1 0 0, .pt 1 [Sl.enc s_.points]), (AV.ptr o5 1 0 0, .pt 1 [nilS]), (x15, obS (q30 : Sl Point)), (AV.ptr o18 1 0 0, .pt 1 [x15])]) := by
  refine loop_sim (Rel := fun (st : (Sl Point) × Int) tm h25 => match st with | (w24, w27) => tm = ((AV.agg [Sl.enc s_.points]) :: (AV.ptr o1 1 0 0) :: (AV.ptr o5 1 0 0) :: (iv 0) :: (AV.ptr o18 1 0 0) :: (iv w27) :: AV.top :: AV.top :: AV.top :: (bv c9) :: (bv (!c9)) :: und :: (AV.agg [x15]) :: AV.top :: AV.top :: AV.top :: AV.top :: AV.top :: AV.top :: AV.top :: AV.top :: AV.top :: AV.top :: AV.top :: AV.top :: AV.top :: AV.top :: AV.top :: AV.top :: AV.top :: AV.top :: AV.top :: AV.top :: AV.top :: AV.top :: AV.top :: AV.top :: AV.top :: AV.top :: AV.top :: AV.top :: AV.top :: AV.top :: AV.top :: AV.top :: AV.top :: AV.top :: AV.top :: AV.top :: AV.top :: AV.top :: AV.top :: AV.top :: AV.top :: AV.top :: AV.top :: AV.top :: AV.top :: AV.top :: AV.top :: AV.top :: AV.top :: AV.top :: AV.top :: AV.top :: und :: []) ∧ Hold B h25 [(AV.ptr o1 1 0 0, .pt 1 [Sl.enc s_.points]), (AV.ptr o5 1 0 0, .pt 1 [nilS]), (x15, obS (w24 : Sl Point)), (AV.ptr o18 1 0 0, .pt 1 [x15])]) (fun st tm h25 R => ?_) R
  obtain ⟨w24, w27⟩ := st
  obtain ⟨rfl, O26⟩ := R
  rw [e_lb0_spec_SmoothStroke]
  unfold s0_spec_SmoothStroke
  dsimp only
  refine sim_let (v := iv (wr (w27 + 1))) (aBin_add _ _) ?_
  refine sim_let (v := AV.ptr o1 1 0 0) rfl ?_
  refine sim_let (v := Sl.enc s_.points) (O26.ld 0 rfl false 1 0) ?_
  refine sim_let (v := iv (((s_.points.getD []).length : Nat) : Int)) (Tab.enc h25 s_.points).len ?_
  refine sim_let (v := bv (decide ((wr (w27 + 1)) < (((s_.points.getD []).length : Nat) : Int)))) (aBin_lss _ _) ?_
  refine sim_cond (fun c38 => ?_) (fun c38 => ?_)
  · refine sim_let (v := AV.ptr o1 1 0 0) rfl ?_
    refine sim_let (v := Sl.enc s_.points) (O26.ld 0 rfl false 1 0) ?_
    refine sim_let (v := iv (wr (w27 - 1))) (aBin_sub _ _) ?_
    refine sim_get (Tab.enc h25 s_.points) (fun m40 a39 hi41 hm42 => ?_)
    refine sim_let (v := AV.agg [iv a39.x, iv a39.y, iv a39.t]) ((Tab.enc h25 s_.points).ld hm42 true 3 0) ?_
    refine sim_box O26 (cs := [iv 0, iv 0, iv 0]) (by first | rfl | simp) (fun o43 h44 O45 => ?_)
    replace O45 : Hold B h44 [(AV.ptr o1 1 0 0, .pt 1 [Sl.enc s_.points]), (AV.ptr o5 1 0 0, .pt 1 [nilS]), (x15, obS (w24 : Sl Point)), (AV.ptr o18 1 0 0, .pt 1 [x15]), (AV.ptr o43 1 0 0, .pt 3 [iv 0, iv 0, iv 0])] := O45
    refine sim_store O45 4 (cs' := [iv a39.x, iv a39.y, iv a39.t]) rfl (by first | rfl | simp) (by simp) (by first | rfl | simp) (by first | rfl | simp [splice]) (fun h47 O48 => ?_)
    replace O48 : Hold B h47 [(AV.ptr o1 1 0 0, .pt 1 [Sl.enc s_.points]), (AV.ptr o5 1 0 0, .pt 1 [nilS]), (x15, obS (w24 : Sl Point)), (AV.ptr o18 1 0 0, .pt 1 [x15]), (AV.ptr o43 1 0 0, .pt 3 [iv a39.x, iv a39.y, iv a39.t])] := O48
    refine sim_let (v := AV.ptr o1 1 0 0) rfl ?_
    refine sim_let (v := Sl.enc s_.points) (O48.ld 0 rfl false 1 0) ?_
    refine sim_get (Tab.enc h47 s_.points) (fun m50 a49 hi51 hm52 => ?_)
    refine sim_let (v := AV.agg [iv a49.x, iv a49.y, iv a49.t]) ((Tab.enc h47 s_.points).ld hm52 true 3 0) ?_
    refine sim_box O48 (cs := [iv 0, iv 0, iv 0]) (by first | rfl | simp) (fun o53 h54 O55 => ?_)
    replace O55 : Hold B h54 [(AV.ptr o1 1 0 0, .pt 1 [Sl.enc s_.points]), (AV.ptr o5 1 0 0, .pt 1 [nilS]), (x15, obS (w24 : Sl Point)), (AV.ptr o18 1 0 0, .pt 1 [x15]), (AV.ptr o43 1 0 0, .pt 3 [iv a39.x, iv a39.y, iv a39.t]), (AV.ptr o53 1 0 0, .pt 3 [iv 0, iv 0, iv 0])] := O55
    refine sim_store O55 5 (cs' := [iv a49.x, iv a49.y, iv a49.t]) rfl (by first | rfl | simp) (by simp) (by first | rfl | simp) (by first | rfl | simp [splice]) (fun h57 O58 => ?_)
    replace O58 : Hold B h57 [(AV.ptr o1 1 0 0, .pt 1 [Sl.enc s_.points]), (AV.ptr o5 1 0 0, .pt 1 [nilS]), (x15, obS (w24 : Sl Point)), (AV.ptr o18 1 0 0, .pt 1 [x15]), (AV.ptr o43 1 0 0, .pt 3 [iv a39.x, iv a39.y, iv a39.t]), (AV.ptr o53 1 0 0, .pt 3 [iv a49.x, iv a49.y, iv a49.t])] := O58
    refine sim_let (v := AV.ptr o1 1 0 0) rfl ?_
    refine sim_let (v := Sl.enc s_.points) (O58.ld 0 rfl false 1 0) ?_
    refine sim_let (v := iv (wr (w27 + 1))) (aBin_add _ _) ?_
    refine sim_get (Tab.enc h57 s_.points) (fun m60 a59 hi61 hm62 => ?_)
    refine sim_let (v := AV.agg [iv a59.x, iv a59.y, iv a59.t]) ((Tab.enc h57 s_.points).ld hm62 true 3 0) ?_
    refine sim_box O58 (cs := [iv 0, iv 0, iv 0]) (by first | rfl | simp) (fun o63 h64 O65 => ?_)
    replace O65 : Hold B h64 [(AV.ptr o1 1 0 0, .pt 1 [Sl.enc s_.points]), (AV.ptr o5 1 0 0, .pt 1 [nilS]), (x15, obS (w24 : Sl Point)), (AV.ptr o18 1 0 0, .pt 1 [x15]), (AV.ptr o43 1 0 0, .pt 3 [iv a39.x, iv a39.y, iv a39.t]), (AV.ptr o53 1 0 0, .pt 3 [iv a49.x, iv a49.y, iv a49.t]), (AV.ptr o63 1 0 0, .pt 3 [iv 0, iv 0, iv 0])] := O65
    refine sim_store O65 6 (cs' := [iv a59.x, iv a59.y, iv a59.t]) rfl (by first | rfl | simp) (by simp) (by first | rfl | simp) (by first | rfl | simp [splice]) (fun h67 O68 => ?_)
    replace O68 : Hold B h67 [(AV.ptr o1 1 0 0, .pt 1 [Sl.enc s_.points]), (AV.ptr o5 1 0 0, .pt 1 [nilS]), (x15, obS (w24 : Sl Point)), (AV.ptr o18 1 0 0, .pt 1 [x15]), (AV.ptr o43 1 0 0, .pt 3 [iv a39.x, iv a39.y, iv a39.t]), (AV.ptr o53 1 0 0, .pt 3 [iv a49.x, iv a49.y, iv a49.t]), (AV.ptr o63 1 0 0, .pt 3 [iv a59.x, iv a59.y, iv a59.t])] := O68
    refine sim_let (v := AV.ptr o18 1 0 0) rfl ?_
    refine sim_let (v := x15) (O68.ld 3 rfl false 1 0) ?_
    refine sim_let (v := AV.ptr o43 1 0 0) rfl ?_
    refine sim_let (v := iv a39.x) (O68.ld 4 rfl false 1 0) ?_
    refine sim_let (v := AV.ptr o53 1 0 0) rfl ?_
    refine sim_let (v := iv a49.x) (O68.ld 5 rfl false 1 0) ?_
    refine sim_let (v := iv (wr (2 * a49.x))) (aBin_mul _ _) ?_
    refine sim_let (v := iv (wr (a39.x + (wr (2 * a49.x))))) (aBin_add _ _) ?_
    refine sim_let (v := AV.ptr o63 1 0 0) rfl ?_
    refine sim_let (v := iv a59.x) (O68.ld 6 rfl false 1 0) ?_
    refine sim_let (v := iv (wr ((wr (a39.x + (wr (2 * a49.x)))) + a59.x))) (aBin_add _ _) ?_
    refine sim_callQ2 he_spec_l05Near (snapD_int _ _) (snapD_int _ _) (fun c69 => ?_)
    refine sim_let2 (hand_plain (by rfl) _ _) ?_
    refine sim_let (v := AV.ptr o43 1 0 1) rfl ?_
    refine sim_let (v := iv a39.y) (O68.ld 4 rfl false 1 1) ?_
    refine sim_let (v := AV.ptr o53 1 0 1) rfl ?_
    refine sim_let (v := iv a49.y) (O68.ld 5 rfl false 1 1) ?_
    refine sim_let (v := iv (wr (2 * a49.y))) (aBin_mul _ _) ?_
    refine sim_let (v := iv (wr (a39.y + (wr (2 * a49.y))))) (aBin_add _ _) ?_
    refine sim_let (v := AV.ptr o63 1 0 1) rfl ?_
    refine sim_let (v := iv a59.y) (O68.ld 6 rfl false 1 1) ?_
    refine sim_let (v := iv (wr ((wr (a39.y + (wr (2 * a49.y)))) + a59.y))) (aBin_add _ _) ?_
    refine sim_callQ2 he_spec_l05Near (snapD_int _ _) (snapD_int _ _) (fun c70 => ?_)
    refine sim_let2 (hand_plain (by rfl) _ _) ?_
    refine sim_let (v := AV.ptr o53 1 0 2) rfl ?_
    refine sim_let (v := iv a49.t) (O68.ld 5 rfl false 1 2) ?_
    refine sim_let (v := AV.agg [iv c69, iv c70, iv a49.t]) (by first | rfl | simp [aBuild, aFill, splice]) ?_
    refine sim_get (O68.tab (A := Point) (s := w24) 2 rfl) (fun m72 a71 hi73 hm74 => ?_)
    refine sim_set (A := Point) O68 2 (⟨c69, c70, a49.t⟩ : Point) rfl hi73 hm74 rfl (by simp) (by first | rfl | simp) (by first | rfl | simp [splice]) (fun h75 O76 => ?_)
    replace O76 : Hold B h75 [(AV.ptr o1 1 0 0, .pt 1 [Sl.enc s_.points]), (AV.ptr o5 1 0 0, .pt 1 [nilS]), (x15, obS ((setS w24 w27 (⟨c69, c70, a49.t⟩ : Point)) : Sl Point)), (AV.ptr o18 1 0 0, .pt 1 [x15]), (AV.ptr o43 1 0 0, .pt 3 [iv a39.x, iv a39.y, iv a39.t]), (AV.ptr o53 1 0 0, .pt 3 [iv a49.x, iv a49.y, iv a49.t]), (AV.ptr o63 1 0 0, .pt 3 [iv a59.x, iv a59.y, iv a59.t])] := O76
    refine sim_let (v := iv (wr (w27 + 1))) (aBin_add _ _) ?_
    have O77 : Hold B h75 [(AV.ptr o1 1 0 0, .pt 1 [Sl.enc s_.points]), (AV.ptr o5 1 0 0, .pt 1 [nilS]), (x15, obS ((setS w24 w27 (⟨c69, c70, a49.t⟩ : Point)) : Sl Point)), (AV.ptr o18 1 0 0, .pt 1 [x15])] := O76.sel [0, 1, 2, 3] (by decide) rfl
    exact sim_ret ⟨rfl, rfl, O77⟩
  · exact sim_ret ⟨nofun, _, _, _, _, _, rfl, O26⟩
theorem ts_spec_SmoothStroke (env : Nat → Contract) (he_spec_l02OwnStroke : env n_spec_l02OwnStroke = .pure (C1 (fun c : Stroke => AV.agg [rS c.points]) tp_spec_l02OwnStroke)) (he_spec_l02Stroke : env n_spec_l02Stroke = .pure (C1 (fun c : Bool => enc c) tp_spec_l02Stroke)) (he_spec_l05Near : env n_spec_l05Near = .pure (C2 (fun c : Int => enc c) t_spec_l05Near)) (s_ : Stroke) : Sim (denFn Try.prog env n_spec_SmoothStroke [AV.agg [Sl.enc s_.points]] []) (t_spec_SmoothStroke s_) fun c p => release p.2 depth p.1 = some ((fun c : Stroke × Int => AV.tup [AV.agg [rS c.1.points], enc c.2]) c) := by
  have O := Hold.nil []
  generalize hB : (⟨[], []⟩ : Base) = B at O
  clear hB
  rw [e_spec_SmoothStroke]
  unfold t_spec_SmoothStroke
  refine sim_box O (cs := [Sl.enc s_.points]) (by first | rfl | simp) (fun o1 h2 O3 => ?_)
  replace O3 : Hold B h2 [(AV.ptr o1 1 0 0, .pt 1 [Sl.enc s_.points])] := O3
  refine sim_box O3 (cs := [nilS]) (by first | rfl | simp) (fun o5 h6 O7 => ?_)
  replace O7 : Hold B h6 [(AV.ptr o1 1 0 0, .pt 1 [Sl.enc s_.points]), (AV.ptr o5 1 0 0, .pt 1 [nilS])] := O7
  refine sim_eqO (y' := tp_spec_l02Stroke ⟨[s_], 0⟩) (by simp only [tp_spec_l02Stroke, get_pt1, obind_sm]) ?_
  refine sim_call1 he_spec_l02Stroke (O7.snapRn 0 rfl s_ rfl rfl) (fun c9 => ?_)
  refine sim_let2 (hand_plain (by rfl) _ _) ?_
  refine sim_let (v := bv (!c9)) (aUn_not _) ?_
  refine sim_cond (fun c10 => ?_) (fun c10 => ?_)
  · refine sim_let (v := AV.agg [nilS]) (by first | rfl | simp [aBuild, aFill, splice]) ?_
    refine sim_store O7 1 (cs' := [nilS]) rfl (by first | rfl | simp) (by simp) (by first | rfl | simp) (by first | rfl | simp [splice]) (fun h11 O12 => ?_)
    replace O12 : Hold B h11 [(AV.ptr o1 1 0 0, .pt 1 [Sl.enc s_.points]), (AV.ptr o5 1 0 0, .pt 1 [nilS])] := O12
    refine sim_retL (resL_c (v := AV.agg [nilS]) (O12.ld 1 rfl true 1 0) (resL_v (v := iv 1) (resL_nil _))) ?_
    dsimp only [pack]
    exact sim_ret (release_plain (by rfl) _)
  · refine sim_eqO (y' := tp_spec_l02OwnStroke ⟨[s_], 0⟩) (by simp only [tp_spec_l02OwnStroke, get_pt1, obind_sm]) ?_
    refine sim_call1 he_spec_l02OwnStroke (O7.snapRn 0 rfl s_ rfl rfl) (fun c13 => ?_)
    refine sim_hand1 O7 (c13.points : Sl Point) (fun z1 => AV.agg [z1]) (by intro b; simp only [mat_tup, mat_aggD, mat_agg, matLc, matLn, mat_iv, mat_bv, mat_sv, mat_bt, mat_nilS, mat_rS, List.append_nil, List.nil_append, List.length_nil, Nat.add_zero]) (by simp only [noF_tup, noF_aggD, noF_agg, noF_iv, noF_bv, noF_sv, noF_bt, noF_nilS, noF_rS, List.all_cons, List.all_nil, Bool.and_self]) (fun x15 h16 O17 => ?_)
    replace O17 : Hold B h16 [(AV.ptr o1 1 0 0, .pt 1 [Sl.enc s_.points]), (AV.ptr o5 1 0 0, .pt 1 [nilS]), (x15, obS (c13.points : Sl Point))] := O17
    refine sim_box O17 (cs := [nilS]) (by first | rfl | simp) (fun o18 h19 O20 => ?_)
    replace O20 : Hold B h19 [(AV.ptr o1 1 0 0, .pt 1 [Sl.enc s_.points]), (AV.ptr o5 1 0 0, .pt 1 [nilS]), (x15, obS (c13.points : Sl Point)), (AV.ptr o18 1 0 0, .pt 1 [nilS])] := O20
    refine sim_store O20 3 (cs' := [x15]) rfl (by first | rfl | simp [(O20.one (A := Point) (s := c13.points) 2 rfl).1, (O20.one (A := Point) (s := c13.points) 2 rfl).2]) (by simp) (by first | rfl | simp [(O20.one (A := Point) (s := c13.points) 2 rfl).1, (O20.one (A := Point) (s := c13.points) 2 rfl).2]) (by first | rfl | simp [splice, (O20.one (A := Point) (s := c13.points) 2 rfl).1, (O20.one (A := Point) (s := c13.points) 2 rfl).2]) (fun h22 O23 => ?_)
    replace O23 : Hold B h22 [(AV.ptr o1 1 0 0, .pt 1 [Sl.enc s_.points]), (AV.ptr o5 1 0 0, .pt 1 [nilS]), (x15, obS (c13.points : Sl Point)), (AV.ptr o18 1 0 0, .pt 1 [x15])] := O23
    refine sim_bind ((tl0_spec_SmoothStroke env he_spec_l02OwnStroke he_spec_l02Stroke he_spec_l05Near s_ o1 o5 c9 x15 o18) ⟨rfl, O23⟩) (fun qq80 r hq => ?_)
    revert hq
    revert qq80
    intro q30 hq
    obtain ⟨q31, z32, z33, z34, h28, rfl, O29⟩ := hq
    rw [e_lk0x0_spec_SmoothStroke]
    refine sim_let (v := AV.agg [x15]) (O29.ld 3 rfl true 1 0) ?_
    refine sim_store O29 1 (cs' := [x15]) rfl (by first | rfl | simp [(O29.one (A := Point) (s := q30) 2 rfl).1, (O29.one (A := Point) (s := q30) 2 rfl).2]) (by simp) (by first | rfl | simp [(O29.one (A := Point) (s := q30) 2 rfl).1, (O29.one (A := Point) (s := q30) 2 rfl).2]) (by first | rfl | simp [splice, (O29.one (A := Point) (s := q30) 2 rfl).1, (O29.one (A := Point) (s := q30) 2 rfl).2]) (fun h35 O36 => ?_)
    replace O36 : Hold B h35 [(AV.ptr o1 1 0 0, .pt 1 [Sl.enc s_.points]), (AV.ptr o5 1 0 0, .pt 1 [x15]), (x15, obS (q30 : Sl Point)), (AV.ptr o18 1 0 0, .pt 1 [x15])] := O36
    refine sim_retL (resL_c (v := AV.agg [x15]) (O36.ld 1 rfl true 1 0) (resL_v (v := iv 0) (resL_nil _))) ?_
    dsimp only [pack]
    have O37 : Hold B h35 [(x15, obS (q30 : Sl Point))] := O36.sel [2] (by decide) rfl
    exact sim_ret (release_of (by simp only [ids_tup, ids_aggD, ids_agg, ids_iv, ids_bv, ids_sv, ids_bt, ids_nilS, ids_enc, O37.idsD (A := Point) (s := q30) 0 rfl, List.map_append, List.map_nil, List.flatMap_cons, List.flatMap_nil, List.append_nil, List.nil_append]; simpa only [List.flatMap_cons, List.flatMap_nil, List.append_nil, List.nil_append] using O37.nd2) (by simp only [rel_tup, rel_aggD, rel_agg, rel_iv, rel_bv, rel_sv, rel_bt, rel_nilS, rel_enc, O37.relD (A := Point) (s := q30) 0 rfl, omapc, omapn, obind_sm] <;> rfl))
theorem tt_spec_SmoothStroke : PureOK Try.prog n_spec_SmoothStroke (C1 (fun c : Stroke × Int => AV.tup [AV.agg [rS c.1.points], enc c.2]) t_spec_SmoothStroke) := pureC1 (Econs tt_spec_l02OwnStroke (Econs tt_spec_l02Stroke (Econs tt_spec_l05Near E0))) mixed hb_spec_SmoothStroke fun s_ => ts_spec_SmoothStroke _ (by simp [envL]) (by simp [envL]) (by simp [envL]) s_

def t_laws_FnThinned (code_ : Sl UInt8) : Option Bool :=
  obind (t_laws_f6big code_) fun c1 =>
  bif c1 then
    some true
  else
    obind (t_spec_DrawThinStroke code_) fun c3 =>
    obind (t_impl_ThinStroke c3.1 c3.2) fun c14 =>
    obind (t_spec_ThinStroke c3.1 c3.2) fun c25 =>
    obind (t_impl_SmoothStroke c3.1) fun c36 =>
    obind (t_spec_SmoothStroke c3.1) fun c47 =>
    obind (bif !decide (c14.2 = c25.2) then some false else (obind (t_laws_f6stroke c14.1 c25.1) fun c59 => some (!c59))) fun c60 =>
    obind (bif (bif !decide (c14.2 = c25.2) then true else c60) then some false else (some (!decide (c36.2 = c47.2)))) fun c62 =>
    obind (bif (bif (bif !decide (c14.2 = c25.2) then true else c60) then true else c62) then some false else (obind (t_laws_f6stroke c36.1 c47.1) fun c64 => some (!c64))) fun c65 =>
    bif (bif (bif (bif !decide (c14.2 = c25.2) then true else c60) then true else c62) then true else c65) then
      some false
    else
      bif !decide (c36.2 = 0) then
        some true
      else
        obind (t_impl_BoxOfStroke c3.1) fun c68 =>
        obind (t_impl_BoxOfStroke c36.1) fun c75 =>
        obind (t_impl_JoinBoxes c68.1 c75.1) fun c82 =>
        obind (bif !decide (c68.2 = 0) then some false else (some (!decide (c75.2 = 0)))) fun c90 =>
        obind (bif (bif !decide (c68.2 = 0) then true else c90) then some false else (some (!decide (c82.2 = 0)))) fun c93 =>
        obind (bif (bif (bif !decide (c68.2 = 0) then true else c90) then true else c93) then some false else (some (!decide (c82.1 = c68.1)))) fun c96 =>
        obind (bif (bif (bif (bif !decide (c68.2 = 0) then true else c90) then true else c93) then true else c96) then some false else (obind (t_impl_ValidStroke c36.1) fun c100 => some (!c100))) fun c101 =>
        obind (bif (bif (bif (bif (bif !decide (c68.2 = 0) then true else c90) then true else c93) then true else c96) then true else c101) then some false else (some (!decide ((((c36.1.points.getD []).length : Nat) : Int) = (((c3.1.points.getD []).length : Nat) : Int))))) fun c105 =>
        obind (bif (bif (bif (bif (bif (bif !decide (c68.2 = 0) then true else c90) then true else c93) then true else c96) then true else c101) then true else c105) then some false else (obind (getI (c36.1.points.getD []) 0) fun a111 => obind (getI (c3.1.points.getD []) 0) fun a115 => some (!decide (a111 = a115)))) fun c119 =>
        obind (bif (bif (bif (bif (bif (bif (bif !decide (c68.2 = 0) then true else c90) then true else c93) then true else c96) then true else c101) then true else c105) then true else c119) then some false else (obind (getI (c36.1.points.getD []) (wr ((((c3.1.points.getD []).length : Nat) : Int) - 1))) fun a129 => obind (getI (c3.1.points.getD []) (wr ((((c3.1.points.getD []).length : Nat) : Int) - 1))) fun a133 => some (!decide (a129 = a133)))) fun c137 =>
        bif (bif (bif (bif (bif (bif (bif (bif !decide (c68.2 = 0) then true else c90) then true else c93) then true else c96) then true else c101) then true else c105) then true else c119) then true else c137) then
          some false
        else
          bif !decide (c14.2 = 0) then
            some true
          else
            obind (t_impl_ThinStroke c14.1 c3.2) fun c152 =>
            obind (t_impl_ValidStroke c14.1) fun c163 =>
            obind (bif c163 then (some (decide (0 < (((c14.1.points.getD []).length : Nat) : Int)))) else some false) fun c165 =>
            obind (bif (bif c163 then c165 else false) then (obind (getI (c14.1.points.getD []) 0) fun a168 => obind (getI (c3.1.points.getD []) 0) fun a172 => some (decide (a168 = a172))) else some false) fun c176 =>
            obind (bif (bif (bif c163 then c165 else false) then c176 else false) then (obind (getI (c14.1.points.getD []) (wr ((((c14.1.points.getD []).length : Nat) : Int) - 1))) fun a186 => obind (getI (c3.1.points.getD []) (wr ((((c3.1.points.getD []).length : Nat) : Int) - 1))) fun a190 => some (decide (a186 = a190))) else some false) fun c194 =>
            obind (bif (bif (bif (bif c163 then c165 else false) then c176 else false) then c194 else false) then (some (decide (c152.2 = 0))) else some false) fun c208 =>
            obind (bif (bif (bif (bif (bif c163 then c165 else false) then c176 else false) then c194 else false) then c208 else false) then (some (decide ((((c152.1.points.getD []).length : Nat) : Int) ≤ (((c14.1.points.getD []).length : Nat) : Int)))) else some false) fun c211 =>
            some (bif (bif (bif (bif (bif c163 then c165 else false) then c176 else false) then c194 else false) then c208 else false) then c211 else false)

theorem ts_laws_FnThinned (env : Nat → Contract) (he_impl_BoxOfStroke : env n_impl_BoxOfStroke = .pure (C1 (fun c : Box × Int => AV.tup [enc c.1, enc c.2]) t_impl_BoxOfStroke)) (he_impl_JoinBoxes : env n_impl_JoinBoxes = .pure (C2 (fun c : Box × Int => AV.tup [enc c.1, enc c.2]) t_impl_JoinBoxes)) (he_impl_SmoothStroke : env n_impl_SmoothStroke = .pure (C1 (fun c : Stroke × Int => AV.tup [AV.agg [rS c.1.points], enc c.2]) t_impl_SmoothStroke)) (he_impl_ThinStroke : env n_impl_ThinStroke = .pure (C2 (fun c : Stroke × Int => AV.tup [AV.agg [rS c.1.points], enc c.2]) t_impl_ThinStroke)) (he_impl_ValidStroke : env n_impl_ValidStroke = .pure (C1 (fun c : Bool => enc c) t_impl_ValidStroke)) (he_laws_f6big : env n_laws_f6big = .pure (C1 (fun c : Bool => enc c) t_laws_f6big)) (he_laws_f6stroke : env n_laws_f6stroke = .pure (C2 (fun c : Bool => enc c) t_laws_f6stroke)) (he_spec_DrawThinStroke : env n_spec_DrawThinStroke = .pure (C1 (fun c : Stroke × Int => AV.tup [AV.agg [rS c.1.points], enc c.2]) t_spec_DrawThinStroke)) (he_spec_SmoothStroke : env n_spec_SmoothStroke = .pure (C1 (fun c : Stroke × Int => AV.tup [AV.agg [rS c.1.points], enc c.2]) t_spec_SmoothStroke)) (he_spec_ThinStroke : env n_spec_ThinStroke = .pure (C2 (fun c : Stroke × Int => AV.tup [AV.agg [rS c.1.points], enc c.2]) t_spec_ThinStroke)) (code_ : Sl UInt8) : Sim (denFn Try.prog env n_laws_FnThinned [Sl.enc code_] []) (t_laws_FnThinned code_) fun c p => release p.2 depth p.1 = some ((fun c : Bool => enc c) c) := by
  have O := Hold.nil []
  generalize hB : (⟨[], []⟩ : Base) = B at O
  clear hB
  rw [e_laws_FnThinned]
  unfold t_laws_FnThinned
  refine sim_call1 he_laws_f6big (snapD_enc _ _) (fun c1 => ?_)
  refine sim_let2 (hand_plain (by rfl) _ _) ?_
  refine sim_cond (fun c2 => ?_) (fun c2 => ?_)
  · exact sim_ret (release_plain (by rfl) _)
  · refine sim_call1 he_spec_DrawThinStroke (snapD_enc _ _) (fun c3 => ?_)
    refine sim_hand1 O (c3.1.points : Sl Point) (fun z1 => AV.tup [AV.agg [z1], iv c3.2]) (by intro b; simp only [mat_tup, mat_aggD, mat_agg, matLc, matLn, mat_iv, mat_bv, mat_sv, mat_bt, mat_nilS, mat_rS, List.append_nil, List.nil_append, List.length_nil, Nat.add_zero]) (by simp only [noF_tup, noF_aggD, noF_agg, noF_iv, noF_bv, noF_sv, noF_bt, noF_nilS, noF_rS, List.all_cons, List.all_nil, Bool.and_self]) (fun x5 h6 O7 => ?_)
    replace O7 : Hold B h6 [(x5, obS (c3.1.points : Sl Point))] := O7
    refine sim_let (v := AV.agg [x5]) rfl ?_
    refine sim_let (v := iv c3.2) rfl ?_
    refine sim_box O7 (cs := [nilS]) (by first | rfl | simp) (fun o8 h9 O10 => ?_)
    replace O10 : Hold B h9 [(x5, obS (c3.1.points : Sl Point)), (AV.ptr o8 1 0 0, .pt 1 [nilS])] := O10
    refine sim_store O10 1 (cs' := [x5]) rfl (by first | rfl | simp [(O10.one (A := Point) (s := c3.1.points) 0 rfl).1, (O10.one (A := Point) (s := c3.1.points) 0 rfl).2]) (by simp) (by first | rfl | simp [(O10.one (A := Point) (s := c3.1.points) 0 rfl).1, (O10.one (A := Point) (s := c3.1.points) 0 rfl).2]) (by first | rfl | simp [splice, (O10.one (A := Point) (s := c3.1.points) 0 rfl).1, (O10.one (A := Point) (s := c3.1.points) 0 rfl).2]) (fun h12 O13 => ?_)
    replace O13 : Hold B h12 [(x5, obS (c3.1.points : Sl Point)), (AV.ptr o8 1 0 0, .pt 1 [x5])] := O13
    refine sim_let (v := AV.agg [x5]) (O13.ld 1 rfl true 1 0) ?_
    refine sim_call2 he_impl_ThinStroke (snapD_own h12 c3.1 rfl (by simp [omap, O13.snap7 (A := Point) (s := c3.1.points) 0 rfl])) (snapD_int _ _) (fun c14 => ?_)
    refine sim_hand1 O13 (c14.1.points : Sl Point) (fun z1 => AV.tup [AV.agg [z1], iv c14.2]) (by intro b; simp only [mat_tup, mat_aggD, mat_agg, matLc, matLn, mat_iv, mat_bv, mat_sv, mat_bt, mat_nilS, mat_rS, List.append_nil, List.nil_append, List.length_nil, Nat.add_zero]) (by simp only [noF_tup, noF_aggD, noF_agg, noF_iv, noF_bv, noF_sv, noF_bt, noF_nilS, noF_rS, List.all_cons, List.all_nil, Bool.and_self]) (fun x16 h17 O18 => ?_)
    replace O18 : Hold B h17 [(x5, obS (c3.1.points : Sl Point)), (AV.ptr o8 1 0 0, .pt 1 [x5]), (x16, obS (c14.1.points : Sl Point))] := O18
    refine sim_let (v := AV.agg [x16]) rfl ?_
    refine sim_let (v := iv c14.2) rfl ?_
    refine sim_box O18 (cs := [nilS]) (by first | rfl | simp) (fun o19 h20 O21 => ?_)
    replace O21 : Hold B h20 [(x5, obS (c3.1.points : Sl Point)), (AV.ptr o8 1 0 0, .pt 1 [x5]), (x16, obS (c14.1.points : Sl Point)), (AV.ptr o19 1 0 0, .pt 1 [nilS])] := O21
    refine sim_store O21 3 (cs' := [x16]) rfl (by first | rfl | simp [(O21.one (A := Point) (s := c14.1.points) 2 rfl).1, (O21.one (A := Point) (s := c14.1.points) 2 rfl).2]) (by simp) (by first | rfl | simp [(O21.one (A := Point) (s := c14.1.points) 2 rfl).1, (O21.one (A := Point) (s := c14.1.points) 2 rfl).2]) (by first | rfl | simp [splice, (O21.one (A := Point) (s := c14.1.points) 2 rfl).1, (O21.one (A := Point) (s := c14.1.points) 2 rfl).2]) (fun h23 O24 => ?_)
    replace O24 : Hold B h23 [(x5, obS (c3.1.points : Sl Point)), (AV.ptr o8 1 0 0, .pt 1 [x5]), (x16, obS (c14.1.points : Sl Point)), (AV.ptr o19 1 0 0, .pt 1 [x16])] := O24
    refine sim_let (v := AV.agg [x5]) (O24.ld 1 rfl true 1 0) ?_
    refine sim_call2 he_spec_ThinStroke (snapD_own h23 c3.1 rfl (by simp [omap, O24.snap7 (A := Point) (s := c3.1.points) 0 rfl])) (snapD_int _ _) (fun c25 => ?_)
    refine sim_hand1 O24 (c25.1.points : Sl Point) (fun z1 => AV.tup [AV.agg [z1], iv c25.2]) (by intro b; simp only [mat_tup, mat_aggD, mat_agg, matLc, matLn, mat_iv, mat_bv, mat_sv, mat_bt, mat_nilS, mat_rS, List.append_nil, List.nil_append, List.length_nil, Nat.add_zero]) (by simp only [noF_tup, noF_aggD, noF_agg, noF_iv, noF_bv, noF_sv, noF_bt, noF_nilS, noF_rS, List.all_cons, List.all_nil, Bool.and_self]) (fun x27 h28 O29 => ?_)
    replace O29 : Hold B h28 [(x5, obS (c3.1.points : Sl Point)), (AV.ptr o8 1 0 0, .pt 1 [x5]), (x16, obS (c14.1.points : Sl Point)), (AV.ptr o19 1 0 0, .pt 1 [x16]), (x27, obS (c25.1.points : Sl Point))] := O29
    refine sim_let (v := AV.agg [x27]) rfl ?_
    refine sim_let (v := iv c25.2) rfl ?_
    refine sim_box O29 (cs := [nilS]) (by first | rfl | simp) (fun o30 h31 O32 => ?_)
    replace O32 : Hold B h31 [(x5, obS (c3.1.points : Sl Point)), (AV.ptr o8 1 0 0, .pt 1 [x5]), (x16, obS (c14.1.points : Sl Point)), (AV.ptr o19 1 0 0, .pt 1 [x16]), (x27, obS (c25.1.points : Sl Point)), (AV.ptr o30 1 0 0, .pt 1 [nilS])] := O32
    refine sim_store O32 5 (cs' := [x27]) rfl (by first | rfl | simp [(O32.one (A := Point) (s := c25.1.points) 4 rfl).1, (O32.one (A := Point) (s := c25.1.points) 4 rfl).2]) (by simp) (by first | rfl | simp [(O32.one (A := Point) (s := c25.1.points) 4 rfl).1, (O32.one (A := Point) (s := c25.1.points) 4 rfl).2]) (by first | rfl | simp [splice, (O32.one (A := Point) (s := c25.1.points) 4 rfl).1, (O32.one (A := Point) (s := c25.1.points) 4 rfl).2]) (fun h34 O35 => ?_)
    replace O35 : Hold B h34 [(x5, obS (c3.1.points : Sl Point)), (AV.ptr o8 1 0 0, .pt 1 [x5]), (x16, obS (c14.1.points : Sl Point)), (AV.ptr o19 1 0 0, .pt 1 [x16]), (x27, obS (c25.1.points : Sl Point)), (AV.ptr o30 1 0 0, .pt 1 [x27])] := O35
    refine sim_let (v := AV.agg [x5]) (O35.ld 1 rfl true 1 0) ?_
    refine sim_call1 he_impl_SmoothStroke (snapD_own h34 c3.1 rfl (by simp [omap, O35.snap7 (A := Point) (s := c3.1.points) 0 rfl])) (fun c36 => ?_)
    refine sim_hand1 O35 (c36.1.points : Sl Point) (fun z1 => AV.tup [AV.agg [z1], iv c36.2]) (by intro b; simp only [mat_tup, mat_aggD, mat_agg, matLc, matLn, mat_iv, mat_bv, mat_sv, mat_bt, mat_nilS, mat_rS, List.append_nil, List.nil_append, List.length_nil, Nat.add_zero]) (by simp only [noF_tup, noF_aggD, noF_agg, noF_iv, noF_bv, noF_sv, noF_bt, noF_nilS, noF_rS, List.all_cons, List.all_nil, Bool.and_self]) (fun x38 h39 O40 => ?_)
    replace O40 : Hold B h39 [(x5, obS (c3.1.points : Sl Point)), (AV.ptr o8 1 0 0, .pt 1 [x5]), (x16, obS (c14.1.points : Sl Point)), (AV.ptr o19 1 0 0, .pt 1 [x16]), (x27, obS (c25.1.points : Sl Point)), (AV.ptr o30 1 0 0, .pt 1 [x27]), (x38, obS (c36.1.points : Sl Point))] := O40
    refine sim_let (v := AV.agg [x38]) rfl ?_
    refine sim_let (v := iv c36.2) rfl ?_
    refine sim_box O40 (cs := [nilS]) (by first | rfl | simp) (fun o41 h42 O43 => ?_)
    replace O43 : Hold B h42 [(x5, obS (c3.1.points : Sl Point)), (AV.ptr o8 1 0 0, .pt 1 [x5]), (x16, obS (c14.1.points : Sl Point)), (AV.ptr o19 1 0 0, .pt 1 [x16]), (x27, obS (c25.1.points : Sl Point)), (AV.ptr o30 1 0 0, .pt 1 [x27]), (x38, obS (c36.1.points : Sl Point)), (AV.ptr o41 1 0 0, .pt 1 [nilS])] := O43
    refine sim_store O43 7 (cs' := [x38]) rfl (by first | rfl | simp [(O43.one (A := Point) (s := c36.1.points) 6 rfl).1, (O43.one (A := Point) (s := c36.1.points) 6 rfl).2]) (by simp) (by first | rfl | simp [(O43.one (A := Point) (s := c36.1.points) 6 rfl).1, (O43.one (A := Point) (s := c36.1.points) 6 rfl).2]) (by first | rfl | simp [splice, (O43.one (A := Point) (s := c36.1.points) 6 rfl).1, (O43.one (A := Point) (s := c36.1.points) 6 rfl).2]) (fun h45 O46 => ?_)
    replace O46 : Hold B h45 [(x5, obS (c3.1.points : Sl Point)), (AV.ptr o8 1 0 0, .pt 1 [x5]), (x16, obS (c14.1.points : Sl Point)), (AV.ptr o19 1 0 0, .pt 1 [x16]), (x27, obS (c25.1.points : Sl Point)), (AV.ptr o30 1 0 0, .pt 1 [x27]), (x38, obS (c36.1.points : Sl Point)), (AV.ptr o41 1 0 0, .pt 1 [x38])] := O46
    refine sim_let (v := AV.agg [x5]) (O46.ld 1 rfl true 1 0) ?_
    refine sim_call1 he_spec_SmoothStroke (snapD_own h45 c3.1 rfl (by simp [omap, O46.snap7 (A := Point) (s := c3.1.points) 0 rfl])) (fun c47 => ?_)
    refine sim_hand1 O46 (c47.1.points : Sl Point) (fun z1 => AV.tup [AV.agg [z1], iv c47.2]) (by intro b; simp only [mat_tup, mat_aggD, mat_agg, matLc, matLn, mat_iv, mat_bv, mat_sv, mat_bt, mat_nilS, mat_rS, List.append_nil, List.nil_append, List.length_nil, Nat.add_zero]) (by simp only [noF_tup, noF_aggD, noF_agg, noF_iv, noF_bv, noF_sv, noF_bt, noF_nilS, noF_rS, List.all_cons, List.all_nil, Bool.and_self]) (fun x49 h50 O51 => ?_)
    replace O51 : Hold B h50 [(x5, obS (c3.1.points : Sl Point)), (AV.ptr o8 1 0 0, .pt 1 [x5]), (x16, obS (c14.1.points : Sl Point)), (AV.ptr o19 1 0 0, .pt 1 [x16]), (x27, obS (c25.1.points : Sl Point)), (AV.ptr o30 1 0 0, .pt 1 [x27]), (x38, obS (c36.1.points : Sl Point)), (AV.ptr o41 1 0 0, .pt 1 [x38]), (x49, obS (c47.1.points : Sl Point))] := O51
    refine sim_let (v := AV.agg [x49]) rfl ?_
    refine sim_let (v := iv c47.2) rfl ?_
    refine sim_box O51 (cs := [nilS]) (by first | rfl | simp) (fun o52 h53 O54 => ?_)
    replace O54 : Hold B h53 [(x5, obS (c3.1.points : Sl Point)), (AV.ptr o8 1 0 0, .pt 1 [x5]), (x16, obS (c14.1.points : Sl Point)), (AV.ptr o19 1 0 0, .pt 1 [x16]), (x27, obS (c25.1.points : Sl Point)), (AV.ptr o30 1 0 0, .pt 1 [x27]), (x38, obS (c36.1.points : Sl Point)), (AV.ptr o41 1 0 0, .pt 1 [x38]), (x49, obS (c47.1.points : Sl Point)), (AV.ptr o52 1 0 0, .pt 1 [nilS])] := O54
    refine sim_store O54 9 (cs' := [x49]) rfl (by first | rfl | simp [(O54.one (A := Point) (s := c47.1.points) 8 rfl).1, (O54.one (A := Point) (s := c47.1.points) 8 rfl).2]) (by simp) (by first | rfl | simp [(O54.one (A := Point) (s := c47.1.points) 8 rfl).1, (O54.one (A := Point) (s := c47.1.points) 8 rfl).2]) (by first | rfl | simp [splice, (O54.one (A := Point) (s := c47.1.points) 8 rfl).1, (O54.one (A := Point) (s := c47.1.points) 8 rfl).2]) (fun h56 O57 => ?_)
    replace O57 : Hold B h56 [(x5, obS (c3.1.points : Sl Point)), (AV.ptr o8 1 0 0, .pt 1 [x5]), (x16, obS (c14.1.points : Sl Point)), (AV.ptr o19 1 0 0, .pt 1 [x16]), (x27, obS (c25.1.points : Sl Point)), (AV.ptr o30 1 0 0, .pt 1 [x27]), (x38, obS (c36.1.points : Sl Point)), (AV.ptr o41 1 0 0, .pt 1 [x38]), (x49, obS (c47.1.points : Sl Point)), (AV.ptr o52 1 0 0, .pt 1 [x49])] := O57
    refine sim_let (v := bv (!decide (c14.2 = c25.2))) (aCmp_ne _ _) ?_
    refine sim_guardF (e := bv) (fun hb58 => ?_) (fun c60 => ?_)
    · refine sim_let (v := AV.agg [x16]) (O57.ld 3 rfl true 1 0) ?_
      refine sim_let (v := AV.agg [x27]) (O57.ld 5 rfl true 1 0) ?_
      refine sim_call2 he_laws_f6stroke (snapD_own h56 c14.1 rfl (by simp [omap, O57.snap7 (A := Point) (s := c14.1.points) 2 rfl])) (snapD_own h56 c25.1 rfl (by simp [omap, O57.snap7 (A := Point) (s := c25.1.points) 4 rfl])) (fun c59 => ?_)
      refine sim_let2 (hand_plain (by rfl) _ _) ?_
      refine sim_let (v := bv (!c59)) (aUn_not _) ?_
      exact sim_ret rfl
    · refine sim_let (v := bv (bif !decide (c14.2 = c25.2) then true else c60)) (pick_b' _ _ _) ?_
      refine sim_guardF (e := bv) (fun hb61 => ?_) (fun c62 => ?_)
      · refine sim_let (v := bv (!decide (c36.2 = c47.2))) (aCmp_ne _ _) ?_
        exact sim_ret rfl
      · refine sim_let (v := bv (bif (bif !decide (c14.2 = c25.2) then true else c60) then true else c62)) (pick_b' _ _ _) ?_
        refine sim_guardF (e := bv) (fun hb63 => ?_) (fun c65 => ?_)
        · refine sim_let (v := AV.agg [x38]) (O57.ld 7 rfl true 1 0) ?_
          refine sim_let (v := AV.agg [x49]) (O57.ld 9 rfl true 1 0) ?_
          refine sim_call2 he_laws_f6stroke (snapD_own h56 c36.1 rfl (by simp [omap, O57.snap7 (A := Point) (s := c36.1.points) 6 rfl])) (snapD_own h56 c47.1 rfl (by simp [omap, O57.snap7 (A := Point) (s := c47.1.points) 8 rfl])) (fun c64 => ?_)
          refine sim_let2 (hand_plain (by rfl) _ _) ?_
          refine sim_let (v := bv (!c64)) (aUn_not _) ?_
          exact sim_ret rfl
        · refine sim_let (v := bv (bif (bif (bif !decide (c14.2 = c25.2) then true else c60) then true else c62) then true else c65)) (pick_b' _ _ _) ?_
          refine sim_cond (fun c66 => ?_) (fun c66 => ?_)
          · exact sim_ret (release_plain (by rfl) _)
          · refine sim_let (v := bv (!decide (c36.2 = 0))) (aCmp_ne _ _) ?_
            refine sim_cond (fun c67 => ?_) (fun c67 => ?_)
            · exact sim_ret (release_plain (by rfl) _)
            · refine sim_let (v := AV.agg [x5]) (O57.ld 1 rfl true 1 0) ?_
              refine sim_call1 he_impl_BoxOfStroke (snapD_own h56 c3.1 rfl (by simp [omap, O57.snap7 (A := Point) (s := c3.1.points) 0 rfl])) (fun c68 => ?_)
              refine sim_let2 (hand_plain (by rfl) _ _) ?_
              refine sim_let (v := AV.agg [iv c68.1.x1, iv c68.1.y1, iv c68.1.x2, iv c68.1.y2]) rfl ?_
              refine sim_let (v := iv c68.2) rfl ?_
              refine sim_box O57 (cs := [iv 0, iv 0, iv 0, iv 0]) (by first | rfl | simp) (fun o69 h70 O71 => ?_)
              replace O71 : Hold B h70 [(x5, obS (c3.1.points : Sl Point)), (AV.ptr o8 1 0 0, .pt 1 [x5]), (x16, obS (c14.1.points : Sl Point)), (AV.ptr o19 1 0 0, .pt 1 [x16]), (x27, obS (c25.1.points : Sl Point)), (AV.ptr o30 1 0 0, .pt 1 [x27]), (x38, obS (c36.1.points : Sl Point)), (AV.ptr o41 1 0 0, .pt 1 [x38]), (x49, obS (c47.1.points : Sl Point)), (AV.ptr o52 1 0 0, .pt 1 [x49]), (AV.ptr o69 1 0 0, .pt 4 [iv 0, iv 0, iv 0, iv 0])] := O71
              refine sim_store O71 10 (cs' := [iv c68.1.x1, iv c68.1.y1, iv c68.1.x2, iv c68.1.y2]) rfl (by first | rfl | simp) (by simp) (by first | rfl | simp) (by first | rfl | simp [splice]) (fun h73 O74 => ?_)
              replace O74 : Hold B h73 [(x5, obS (c3.1.points : Sl Point)), (AV.ptr o8 1 0 0, .pt 1 [x5]), (x16, obS (c14.1.points : Sl Point)), (AV.ptr o19 1 0 0, .pt 1 [x16]), (x27, obS (c25.1.points : Sl Point)), (AV.ptr o30 1 0 0, .pt 1 [x27]), (x38, obS (c36.1.points : Sl Point)), (AV.ptr o41 1 0 0, .pt 1 [x38]), (x49, obS (c47.1.points : Sl Point)), (AV.ptr o52 1 0 0, .pt 1 [x49]), (AV.ptr o69 1 0 0, .pt 4 [iv c68.1.x1, iv c68.1.y1, iv c68.1.x2, iv c68.1.y2])] := O74
              refine sim_let (v := AV.agg [x38]) (O74.ld 7 rfl true 1 0) ?_
              refine sim_call1 he_impl_BoxOfStroke (snapD_own h73 c36.1 rfl (by simp [omap, O74.snap7 (A := Point) (s := c36.1.points) 6 rfl])) (fun c75 => ?_)
              refine sim_let2 (hand_plain (by rfl) _ _) ?_
              refine sim_let (v := AV.agg [iv c75.1.x1, iv c75.1.y1, iv c75.1.x2, iv c75.1.y2]) rfl ?_
              refine sim_let (v := iv c75.2) rfl ?_
              refine sim_box O74 (cs := [iv 0, iv 0, iv 0, iv 0]) (by first | rfl | simp) (fun o76 h77 O78 => ?_)
              replace O78 : Hold B h77 [(x5, obS (c3.1.points : Sl Point)), (AV.ptr o8 1 0 0, .pt 1 [x5]), (x16, obS (c14.1.points : Sl Point)), (AV.ptr o19 1 0 0, .pt 1 [x16]), (x27, obS (c25.1.points : Sl Point)), (AV.ptr o30 1 0 0, .pt 1 [x27]), (x38, obS (c36.1.points : Sl Point)), (AV.ptr o41 1 0 0, .pt 1 [x38]), (x49, obS (c47.1.points : Sl Point)), (AV.ptr o52 1 0 0, .pt 1 [x49]), (AV.ptr o69 1 0 0, .pt 4 [iv c68.1.x1, iv c68.1.y1, iv c68.1.x2, iv c68.1.y2]), (AV.ptr o76 1 0 0, .pt 4 [iv 0, iv 0, iv 0, iv 0])] := O78
              refine sim_store O78 11 (cs' := [iv c75.1.x1, iv c75.1.y1, iv c75.1.x2, iv c75.1.y2]) rfl (by first | rfl | simp) (by simp) (by first | rfl | simp) (by first | rfl | simp [splice]) (fun h80 O81 => ?_)
              replace O81 : Hold B h80 [(x5, obS (c3.1.points : Sl Point)), (AV.ptr o8 1 0 0, .pt 1 [x5]), (x16, obS (c14.1.points : Sl Point)), (AV.ptr o19 1 0 0, .pt 1 [x16]), (x27, obS (c25.1.points : Sl Point)), (AV.ptr o30 1 0 0, .pt 1 [x27]), (x38, obS (c36.1.points : Sl Point)), (AV.ptr o41 1 0 0, .pt 1 [x38]), (x49, obS (c47.1.points : Sl Point)), (AV.ptr o52 1 0 0, .pt 1 [x49]), (AV.ptr o69 1 0 0, .pt 4 [iv c68.1.x1, iv c68.1.y1, iv c68.1.x2, iv c68.1.y2]), (AV.ptr o76 1 0 0, .pt 4 [iv c75.1.x1, iv c75.1.y1, iv c75.1.x2, iv c75.1.y2])] := O81
              refine sim_let (v := AV.agg [iv c68.1.x1, iv c68.1.y1, iv c68.1.x2, iv c68.1.y2]) (O81.ld 10 rfl true 4 0) ?_
              refine sim_let (v := AV.agg [iv c75.1.x1, iv c75.1.y1, iv c75.1.x2, iv c75.1.y2]) (O81.ld 11 rfl true 4 0) ?_
              refine sim_call2 he_impl_JoinBoxes (snapD_nr _ c68.1 rfl) (snapD_nr _ c75.1 rfl) (fun c82 => ?_)
              refine sim_let2 (hand_plain (by rfl) _ _) ?_
              refine sim_let (v := AV.agg [iv c82.1.x1, iv c82.1.y1, iv c82.1.x2, iv c82.1.y2]) rfl ?_
              refine sim_let (v := iv c82.2) rfl ?_
              refine sim_box O81 (cs := [iv 0, iv 0, iv 0, iv 0]) (by first | rfl | simp) (fun o83 h84 O85 => ?_)
              replace O85 : Hold B h84 [(x5, obS (c3.1.points : Sl Point)), (AV.ptr o8 1 0 0, .pt 1 [x5]), (x16, obS (c14.1.points : Sl Point)), (AV.ptr o19 1 0 0, .pt 1 [x16]), (x27, obS (c25.1.points : Sl Point)), (AV.ptr o30 1 0 0, .pt 1 [x27]), (x38, obS (c36.1.points : Sl Point)), (AV.ptr o41 1 0 0, .pt 1 [x38]), (x49, obS (c47.1.points : Sl Point)), (AV.ptr o52 1 0 0, .pt 1 [x49]), (AV.ptr o69 1 0 0, .pt 4 [iv c68.1.x1, iv c68.1.y1, iv c68.1.x2, iv c68.1.y2]), (AV.ptr o76 1 0 0, .pt 4 [iv c75.1.x1, iv c75.1.y1, iv c75.1.x2, iv c75.1.y2]), (AV.ptr o83 1 0 0, .pt 4 [iv 0, iv 0, iv 0, iv 0])] := O85
              refine sim_store O85 12 (cs' := [iv c82.1.x1, iv c82.1.y1, iv c82.1.x2, iv c82.1.y2]) rfl (by first | rfl | simp) (by simp) (by first | rfl | simp) (by first | rfl | simp [splice]) (fun h87 O88 => ?_)
              replace O88 : Hold B h87 [(x5, obS (c3.1.points : Sl Point)), (AV.ptr o8 1 0 0, .pt 1 [x5]), (x16, obS (c14.1.points : Sl Point)), (AV.ptr o19 1 0 0, .pt 1 [x16]), (x27, obS (c25.1.points : Sl Point)), (AV.ptr o30 1 0 0, .pt 1 [x27]), (x38, obS (c36.1.points : Sl Point)), (AV.ptr o41 1 0 0, .pt 1 [x38]), (x49, obS (c47.1.points : Sl Point)), (AV.ptr o52 1 0 0, .pt 1 [x49]), (AV.ptr o69 1 0 0, .pt 4 [iv c68.1.x1, iv c68.1.y1, iv c68.1.x2, iv c68.1.y2]), (AV.ptr o76 1 0 0, .pt 4 [iv c75.1.x1, iv c75.1.y1, iv c75.1.x2, iv c75.1.y2]), (AV.ptr o83 1 0 0, .pt 4 [iv c82.1.x1, iv c82.1.y1, iv c82.1.x2, iv c82.1.y2])] := O88
              refine sim_let (v := AV.ptr o8 1 0 0) rfl ?_
              refine sim_let (v := x5) (O88.ld 1 rfl false 1 0) ?_
              refine sim_let (v := iv (((c3.1.points.getD []).length : Nat) : Int)) (O88.tab (A := Point) (s := c3.1.points) 0 rfl).len ?_
              refine sim_let (v := bv (!decide (c68.2 = 0))) (aCmp_ne _ _) ?_
              refine sim_g2F (e := bv) (fun hb89 => ?_) (fun y91 c90 => ?_)
              · refine sim_o0 ?_
                refine sim_let (v := bv (!decide (c75.2 = 0))) (aCmp_ne _ _) ?_
                exact sim_ret rfl
              · refine sim_let (v := bv (bif !decide (c68.2 = 0) then true else c90)) (pick_b' _ _ _) ?_
                refine sim_g2F (e := bv) (fun hb92 => ?_) (fun y94 c93 => ?_)
                · refine sim_o0 ?_
                  refine sim_let (v := bv (!decide (c82.2 = 0))) (aCmp_ne _ _) ?_
                  exact sim_ret rfl
                · refine sim_let (v := bv (bif (bif !decide (c68.2 = 0) then true else c90) then true else c93)) (pick_b' _ _ _) ?_
                  refine sim_g3F (e := bv) (fun hb95 => ?_) (fun y97 y98 c96 => ?_)
                  · refine sim_o1 ?_
                    refine sim_let (v := AV.agg [iv c82.1.x1, iv c82.1.y1, iv c82.1.x2, iv c82.1.y2]) (O88.ld 12 rfl true 4 0) ?_
                    refine sim_o0 ?_
                    refine sim_o1 ?_
                    refine sim_let (v := AV.agg [iv c68.1.x1, iv c68.1.y1, iv c68.1.x2, iv c68.1.y2]) (O88.ld 10 rfl true 4 0) ?_
                    refine sim_o0 ?_
                    refine sim_let (v := bv (!decide (c82.1 = c68.1))) (aCmp_box c82.1 c68.1).2 ?_
                    exact sim_ret rfl
                  · refine sim_let (v := bv (bif (bif (bif !decide (c68.2 = 0) then true else c90) then true else c93) then true else c96)) (pick_b' _ _ _) ?_
                    refine sim_g3F (e := bv) (fun hb99 => ?_) (fun y102 y103 c101 => ?_)
                    · refine sim_o1 ?_
                      refine sim_let (v := AV.agg [x38]) (O88.ld 7 rfl true 1 0) ?_
                      refine sim_o0 ?_
                      refine sim_o2 ?_
                      refine sim_callQ1 he_impl_ValidStroke (snapD_own h87 c36.1 rfl (by simp [omap, O88.snap7 (A := Point) (s := c36.1.points) 6 rfl])) (fun c100 => ?_)
                      refine sim_let2 (hand_plain (by rfl) _ _) ?_
                      refine sim_o0 ?_
                      refine sim_let (v := bv (!c100)) (aUn_not _) ?_
                      exact sim_ret rfl
                    · refine sim_let (v := bv (bif (bif (bif (bif !decide (c68.2 = 0) then true else c90) then true else c93) then true else c96) then true else c101)) (pick_b' _ _ _) ?_
                      refine sim_g5F (e := bv) (fun hb104 => ?_) (fun y106 y107 y108 y109 c105 => ?_)
                      · refine sim_o1 ?_
                        refine sim_let (v := AV.ptr o41 1 0 0) rfl ?_
                        refine sim_o0 ?_
                        refine sim_o1 ?_
                        refine sim_let (v := x38) (O88.ld 7 rfl false 1 0) ?_
                        refine sim_o0 ?_
                        refine sim_o1 ?_
                        refine sim_let (v := iv (((c36.1.points.getD []).length : Nat) : Int)) (O88.tab (A := Point) (s := c36.1.points) 6 rfl).len ?_
                        refine sim_o0 ?_
                        refine sim_o0 ?_
                        refine sim_let (v := bv (!decide ((((c36.1.points.getD []).length : Nat) : Int) = (((c3.1.points.getD []).length : Nat) : Int)))) (aCmp_ne _ _) ?_
                        exact sim_ret rfl
                      · refine sim_let (v := bv (bif (bif (bif (bif (bif !decide (c68.2 = 0) then true else c90) then true else c93) then true else c96) then true else c101) then true else c105)) (pick_b' _ _ _) ?_
                        refine sim_g9F (e := bv) (fun hb110 => ?_) (fun y120 y121 y122 y123 y124 y125 y126 y127 c119 => ?_)
                        · refine sim_o1 ?_
                          refine sim_let (v := AV.ptr o41 1 0 0) rfl ?_
                          refine sim_o0 ?_
                          refine sim_o1 ?_
                          refine sim_let (v := x38) (O88.ld 7 rfl false 1 0) ?_
                          refine sim_o0 ?_
                          refine sim_o1 ?_
                          refine sim_get (O88.tab (A := Point) (s := c36.1.points) 6 rfl) (fun m112 a111 hi113 hm114 => ?_)
                          refine sim_o0 ?_
                          refine sim_o1 ?_
                          refine sim_let (v := AV.agg [iv a111.x, iv a111.y, iv a111.t]) ((O88.tab (A := Point) (s := c36.1.points) 6 rfl).ld hm114 true 3 0) ?_
                          refine sim_o0 ?_
                          refine sim_o1 ?_
                          refine sim_let (v := AV.ptr o8 1 0 0) rfl ?_
                          refine sim_o0 ?_
                          refine sim_o1 ?_
                          refine sim_let (v := x5) (O88.ld 1 rfl false 1 0) ?_
                          refine sim_o0 ?_
                          refine sim_o1 ?_
                          refine sim_get (O88.tab (A := Point) (s := c3.1.points) 0 rfl) (fun m116 a115 hi117 hm118 => ?_)
                          refine sim_o0 ?_
                          refine sim_o1 ?_
                          refine sim_let (v := AV.agg [iv a115.x, iv a115.y, iv a115.t]) ((O88.tab (A := Point) (s := c3.1.points) 0 rfl).ld hm118 true 3 0) ?_
                          refine sim_o0 ?_
                          refine sim_let (v := bv (!decide (a111 = a115))) (aCmp_Point a111 a115).2 ?_
                          exact sim_ret rfl
                        · refine sim_let (v := bv (bif (bif (bif (bif (bif (bif !decide (c68.2 = 0) then true else c90) then true else c93) then true else c96) then true else c101) then true else c105) then true else c119)) (pick_b' _ _ _) ?_
                          refine sim_g13F (e := bv) (fun hb128 => ?_) (fun y138 y139 y140 y141 y142 y143 y144 y145 y146 y147 y148 y149 c137 => ?_)
                          · refine sim_o1 ?_
                            refine sim_let (v := AV.ptr o41 1 0 0) rfl ?_
                            refine sim_o0 ?_
                            refine sim_o1 ?_
                            refine sim_let (v := x38) (O88.ld 7 rfl false 1 0) ?_
                            refine sim_o0 ?_
                            refine sim_o0 ?_
                            refine sim_o1 ?_
                            refine sim_let (v := iv (wr ((((c3.1.points.getD []).length : Nat) : Int) - 1))) (aBin_sub _ _) ?_
                            refine sim_o0 ?_
                            refine sim_o1 ?_
                            refine sim_get (O88.tab (A := Point) (s := c36.1.points) 6 rfl) (fun m130 a129 hi131 hm132 => ?_)
                            refine sim_o0 ?_
                            refine sim_o1 ?_
                            refine sim_let (v := AV.agg [iv a129.x, iv a129.y, iv a129.t]) ((O88.tab (A := Point) (s := c36.1.points) 6 rfl).ld hm132 true 3 0) ?_
                            refine sim_o0 ?_
                            refine sim_o1 ?_
                            refine sim_let (v := AV.ptr o8 1 0 0) rfl ?_
                            refine sim_o0 ?_
                            refine sim_o1 ?_
                            refine sim_let (v := x5) (O88.ld 1 rfl false 1 0) ?_
                            refine sim_o0 ?_
                            refine sim_o0 ?_
                            refine sim_o1 ?_
                            refine sim_let (v := iv (wr ((((c3.1.points.getD []).length : Nat) : Int) - 1))) (aBin_sub _ _) ?_
                            refine sim_o0 ?_
                            refine sim_o1 ?_
                            refine sim_get (O88.tab (A := Point) (s := c3.1.points) 0 rfl) (fun m134 a133 hi135 hm136 => ?_)
                            refine sim_o0 ?_
                            refine sim_o1 ?_
                            refine sim_let (v := AV.agg [iv a133.x, iv a133.y, iv a133.t]) ((O88.tab (A := Point) (s := c3.1.points) 0 rfl).ld hm136 true 3 0) ?_
                            refine sim_o0 ?_
                            refine sim_let (v := bv (!decide (a129 = a133))) (aCmp_Point a129 a133).2 ?_
                            exact sim_ret rfl
                          · refine sim_let (v := bv (bif (bif (bif (bif (bif (bif (bif !decide (c68.2 = 0) then true else c90) then true else c93) then true else c96) then true else c101) then true else c105) then true else c119) then true else c137)) (pick_b' _ _ _) ?_
                            refine sim_cond (fun c150 => ?_) (fun c150 => ?_)
                            · exact sim_ret (release_plain (by rfl) _)
                            · refine sim_let (v := bv (!decide (c14.2 = 0))) (aCmp_ne _ _) ?_
                              refine sim_cond (fun c151 => ?_) (fun c151 => ?_)
                              · exact sim_ret (release_plain (by rfl) _)
                              · refine sim_let (v := AV.agg [x16]) (O88.ld 3 rfl true 1 0) ?_
                                refine sim_call2 he_impl_ThinStroke (snapD_own h87 c14.1 rfl (by simp [omap, O88.snap7 (A := Point) (s := c14.1.points) 2 rfl])) (snapD_int _ _) (fun c152 => ?_)
                                refine sim_hand1 O88 (c152.1.points : Sl Point) (fun z1 => AV.tup [AV.agg [z1], iv c152.2]) (by intro b; simp only [mat_tup, mat_aggD, mat_agg, matLc, matLn, mat_iv, mat_bv, mat_sv, mat_bt, mat_nilS, mat_rS, List.append_nil, List.nil_append, List.length_nil, Nat.add_zero]) (by simp only [noF_tup, noF_aggD, noF_agg, noF_iv, noF_bv, noF_sv, noF_bt, noF_nilS, noF_rS, List.all_cons, List.all_nil, Bool.and_self]) (fun x154 h155 O156 => ?_)
                                replace O156 : Hold B h155 [(x5, obS (c3.1.points : Sl Point)), (AV.ptr o8 1 0 0, .pt 1 [x5]), (x16, obS (c14.1.points : Sl Point)), (AV.ptr o19 1 0 0, .pt 1 [x16]), (x27, obS (c25.1.points : Sl Point)), (AV.ptr o30 1 0 0, .pt 1 [x27]), (x38, obS (c36.1.points : Sl Point)), (AV.ptr o41 1 0 0, .pt 1 [x38]), (x49, obS (c47.1.points : Sl Point)), (AV.ptr o52 1 0 0, .pt 1 [x49]), (AV.ptr o69 1 0 0, .pt 4 [iv c68.1.x1, iv c68.1.y1, iv c68.1.x2, iv c68.1.y2]), (AV.ptr o76 1 0 0, .pt 4 [iv c75.1.x1, iv c75.1.y1, iv c75.1.x2, iv c75.1.y2]), (AV.ptr o83 1 0 0, .pt 4 [iv c82.1.x1, iv c82.1.y1, iv c82.1.x2, iv c82.1.y2]), (x154, obS (c152.1.points : Sl Point))] := O156
                                refine sim_let (v := AV.agg [x154]) rfl ?_
                                refine sim_let (v := iv c152.2) rfl ?_
                                refine sim_box O156 (cs := [nilS]) (by first | rfl | simp) (fun o157 h158 O159 => ?_)
                                replace O159 : Hold B h158 [(x5, obS (c3.1.points : Sl Point)), (AV.ptr o8 1 0 0, .pt 1 [x5]), (x16, obS (c14.1.points : Sl Point)), (AV.ptr o19 1 0 0, .pt 1 [x16]), (x27, obS (c25.1.points : Sl Point)), (AV.ptr o30 1 0 0, .pt 1 [x27]), (x38, obS (c36.1.points : Sl Point)), (AV.ptr o41 1 0 0, .pt 1 [x38]), (x49, obS (c47.1.points : Sl Point)), (AV.ptr o52 1 0 0, .pt 1 [x49]), (AV.ptr o69 1 0 0, .pt 4 [iv c68.1.x1, iv c68.1.y1, iv c68.1.x2, iv c68.1.y2]), (AV.ptr o76 1 0 0, .pt 4 [iv c75.1.x1, iv c75.1.y1, iv c75.1.x2, iv c75.1.y2]), (AV.ptr o83 1 0 0, .pt 4 [iv c82.1.x1, iv c82.1.y1, iv c82.1.x2, iv c82.1.y2]), (x154, obS (c152.1.points : Sl Point)), (AV.ptr o157 1 0 0, .pt 1 [nilS])] := O159
                                refine sim_store O159 14 (cs' := [x154]) rfl (by first | rfl | simp [(O159.one (A := Point) (s := c152.1.points) 13 rfl).1, (O159.one (A := Point) (s := c152.1.points) 13 rfl).2]) (by simp) (by first | rfl | simp [(O159.one (A := Point) (s := c152.1.points) 13 rfl).1, (O159.one (A := Point) (s := c152.1.points) 13 rfl).2]) (by first | rfl | simp [splice, (O159.one (A := Point) (s := c152.1.points) 13 rfl).1, (O159.one (A := Point) (s := c152.1.points) 13 rfl).2]) (fun h161 O162 => ?_)
                                replace O162 : Hold B h161 [(x5, obS (c3.1.points : Sl Point)), (AV.ptr o8 1 0 0, .pt 1 [x5]), (x16, obS (c14.1.points : Sl Point)), (AV.ptr o19 1 0 0, .pt 1 [x16]), (x27, obS (c25.1.points : Sl Point)), (AV.ptr o30 1 0 0, .pt 1 [x27]), (x38, obS (c36.1.points : Sl Point)), (AV.ptr o41 1 0 0, .pt 1 [x38]), (x49, obS (c47.1.points : Sl Point)), (AV.ptr o52 1 0 0, .pt 1 [x49]), (AV.ptr o69 1 0 0, .pt 4 [iv c68.1.x1, iv c68.1.y1, iv c68.1.x2, iv c68.1.y2]), (AV.ptr o76 1 0 0, .pt 4 [iv c75.1.x1, iv c75.1.y1, iv c75.1.x2, iv c75.1.y2]), (AV.ptr o83 1 0 0, .pt 4 [iv c82.1.x1, iv c82.1.y1, iv c82.1.x2, iv c82.1.y2]), (x154, obS (c152.1.points : Sl Point)), (AV.ptr o157 1 0 0, .pt 1 [x154])] := O162
                                refine sim_let (v := AV.ptr o19 1 0 0) rfl ?_
                                refine sim_let (v := x16) (O162.ld 3 rfl false 1 0) ?_
                                refine sim_let (v := iv (((c14.1.points.getD []).length : Nat) : Int)) (O162.tab (A := Point) (s := c14.1.points) 2 rfl).len ?_
                                refine sim_let (v := AV.agg [x16]) (O162.ld 3 rfl true 1 0) ?_
                                refine sim_callQ1 he_impl_ValidStroke (snapD_own h161 c14.1 rfl (by simp [omap, O162.snap7 (A := Point) (s := c14.1.points) 2 rfl])) (fun c163 => ?_)
                                refine sim_let2 (hand_plain (by rfl) _ _) ?_
                                refine sim_g2T (e := bv) (fun hb164 => ?_) (fun y166 c165 => ?_)
                                · refine sim_o0 ?_
                                  refine sim_let (v := bv (decide (0 < (((c14.1.points.getD []).length : Nat) : Int)))) (aBin_gtr _ _) ?_
                                  exact sim_ret rfl
                                · refine sim_let (v := bv (bif c163 then c165 else false)) (pick_b _ _ _) ?_
                                  refine sim_g9T (e := bv) (fun hb167 => ?_) (fun y177 y178 y179 y180 y181 y182 y183 y184 c176 => ?_)
                                  · refine sim_o1 ?_
                                    refine sim_let (v := AV.ptr o19 1 0 0) rfl ?_
                                    refine sim_o0 ?_
                                    refine sim_o1 ?_
                                    refine sim_let (v := x16) (O162.ld 3 rfl false 1 0) ?_
                                    refine sim_o0 ?_
                                    refine sim_o1 ?_
                                    refine sim_get (O162.tab (A := Point) (s := c14.1.points) 2 rfl) (fun m169 a168 hi170 hm171 => ?_)
                                    refine sim_o0 ?_
                                    refine sim_o1 ?_
                                    refine sim_let (v := AV.agg [iv a168.x, iv a168.y, iv a168.t]) ((O162.tab (A := Point) (s := c14.1.points) 2 rfl).ld hm171 true 3 0) ?_
                                    refine sim_o0 ?_
                                    refine sim_o1 ?_
                                    refine sim_let (v := AV.ptr o8 1 0 0) rfl ?_
                                    refine sim_o0 ?_
                                    refine sim_o1 ?_
                                    refine sim_let (v := x5) (O162.ld 1 rfl false 1 0) ?_
                                    refine sim_o0 ?_
                                    refine sim_o1 ?_
                                    refine sim_get (O162.tab (A := Point) (s := c3.1.points) 0 rfl) (fun m173 a172 hi174 hm175 => ?_)
                                    refine sim_o0 ?_
                                    refine sim_o1 ?_
                                    refine sim_let (v := AV.agg [iv a172.x, iv a172.y, iv a172.t]) ((O162.tab (A := Point) (s := c3.1.points) 0 rfl).ld hm175 true 3 0) ?_
                                    refine sim_o0 ?_
                                    refine sim_let (v := bv (decide (a168 = a172))) (aCmp_Point a168 a172).1 ?_
                                    exact sim_ret rfl
                                  · refine sim_let (v := bv (bif (bif c163 then c165 else false) then c176 else false)) (pick_b _ _ _) ?_
                                    refine sim_g13T (e := bv) (fun hb185 => ?_) (fun y195 y196 y197 y198 y199 y200 y201 y202 y203 y204 y205 y206 c194 => ?_)
                                    · refine sim_o1 ?_
                                      refine sim_let (v := AV.ptr o19 1 0 0) rfl ?_
                                      refine sim_o0 ?_
                                      refine sim_o1 ?_
                                      refine sim_let (v := x16) (O162.ld 3 rfl false 1 0) ?_
                                      refine sim_o0 ?_
                                      refine sim_o0 ?_
                                      refine sim_o1 ?_
                                      refine sim_let (v := iv (wr ((((c14.1.points.getD []).length : Nat) : Int) - 1))) (aBin_sub _ _) ?_
                                      refine sim_o0 ?_
                                      refine sim_o1 ?_
                                      refine sim_get (O162.tab (A := Point) (s := c14.1.points) 2 rfl) (fun m187 a186 hi188 hm189 => ?_)
                                      refine sim_o0 ?_
                                      refine sim_o1 ?_
                                      refine sim_let (v := AV.agg [iv a186.x, iv a186.y, iv a186.t]) ((O162.tab (A := Point) (s := c14.1.points) 2 rfl).ld hm189 true 3 0) ?_
                                      refine sim_o0 ?_
                                      refine sim_o1 ?_
                                      refine sim_let (v := AV.ptr o8 1 0 0) rfl ?_
                                      refine sim_o0 ?_
                                      refine sim_o1 ?_
                                      refine sim_let (v := x5) (O162.ld 1 rfl false 1 0) ?_
                                      refine sim_o0 ?_
                                      refine sim_o0 ?_
                                      refine sim_o1 ?_
                                      refine sim_let (v := iv (wr ((((c3.1.points.getD []).length : Nat) : Int) - 1))) (aBin_sub _ _) ?_
                                      refine sim_o0 ?_
                                      refine sim_o1 ?_
                                      refine sim_get (O162.tab (A := Point) (s := c3.1.points) 0 rfl) (fun m191 a190 hi192 hm193 => ?_)
                                      refine sim_o0 ?_
                                      refine sim_o1 ?_
                                      refine sim_let (v := AV.agg [iv a190.x, iv a190.y, iv a190.t]) ((O162.tab (A := Point) (s := c3.1.points) 0 rfl).ld hm193 true 3 0) ?_
                                      refine sim_o0 ?_
                                      refine sim_let (v := bv (decide (a186 = a190))) (aCmp_Point a186 a190).1 ?_
                                      exact sim_ret rfl
                                    · refine sim_let (v := bv (bif (bif (bif c163 then c165 else false) then c176 else false) then c194 else false)) (pick_b _ _ _) ?_
                                      refine sim_g2T (e := bv) (fun hb207 => ?_) (fun y209 c208 => ?_)
                                      · refine sim_o0 ?_
                                        refine sim_let (v := bv (decide (c152.2 = 0))) (aCmp_eq _ _) ?_
                                        exact sim_ret rfl
                                      · refine sim_let (v := bv (bif (bif (bif (bif c163 then c165 else false) then c176 else false) then c194 else false) then c208 else false)) (pick_b _ _ _) ?_
                                        refine sim_g5T (e := bv) (fun hb210 => ?_) (fun y212 y213 y214 y215 c211 => ?_)
                                        · refine sim_o1 ?_
                                          refine sim_let (v := AV.ptr o157 1 0 0) rfl ?_
                                          refine sim_o0 ?_
                                          refine sim_o1 ?_
                                          refine sim_let (v := x154) (O162.ld 14 rfl false 1 0) ?_
                                          refine sim_o0 ?_
                                          refine sim_o1 ?_
                                          refine sim_let (v := iv (((c152.1.points.getD []).length : Nat) : Int)) (O162.tab (A := Point) (s := c152.1.points) 13 rfl).len ?_
                                          refine sim_o0 ?_
                                          refine sim_o0 ?_
                                          refine sim_let (v := bv (decide ((((c152.1.points.getD []).length : Nat) : Int) ≤ (((c14.1.points.getD []).length : Nat) : Int)))) (aBin_leq _ _) ?_
                                          exact sim_ret rfl
                                        · refine sim_let (v := bv (bif (bif (bif (bif (bif c163 then c165 else false) then c176 else false) then c194 else false) then c208 else false) then c211 else false)) (pick_b _ _ _) ?_
                                          exact sim_ret (release_plain (by rfl) _)
theorem tt_laws_FnThinned : PureOK Try.prog n_laws_FnThinned (C1 (fun c : Bool => enc c) t_laws_FnThinned) := pureC1 (Econs tt_impl_BoxOfStroke (Econs tt_impl_JoinBoxes (Econs tt_impl_SmoothStroke (Econs tt_impl_ThinStroke (Econs tt_impl_ValidStroke (Econs tt_laws_f6big (Econs tt_laws_f6stroke (Econs tt_spec_DrawThinStroke (Econs tt_spec_SmoothStroke (Econs tt_spec_ThinStroke E0)))))))))) mixed hb_laws_FnThinned fun code_ => ts_laws_FnThinned _ (by simp [envL]) (by simp [envL]) (by simp [envL]) (by simp [envL]) (by simp [envL]) (by simp [envL]) (by simp [envL]) (by simp [envL]) (by simp [envL]) (by simp [envL]) code_

/-- The source has been read up to `k` at most. -/
structure SK (s : l00Src) (k : Int) : Prop where
  lo : 0 ≤ s.pos
  hi : s.pos ≤ k

theorem SK.mono {s : l00Src} {k k' : Int} (h : SK s k) (hk : k ≤ k') : SK s k' := ⟨h.lo, by have := h.hi; omega⟩

theorem and255 (a : Int) : 0 ≤ wr (IntKind.u64.wrap ((BitVec.ofInt 64 a &&& BitVec.ofInt 64 255).toNat : Nat)) ∧ wr (IntKind.u64.wrap ((BitVec.ofInt 64 a &&& BitVec.ofInt 64 255).toNat : Nat)) ≤ 255 := by
  have h1 : (BitVec.ofInt 64 a &&& BitVec.ofInt 64 255).toNat ≤ 255 := by
    rw [BitVec.toNat_and]
    have : (BitVec.ofInt 64 255).toNat = 255 := by decide
    rw [this]
    exact Nat.and_le_right
  generalize (BitVec.ofInt 64 a &&& BitVec.ofInt 64 255).toNat = r at h1
  have h2 : IntKind.u64.wrap (r : Int) = r := by
    simp only [IntKind.wrap, IntKind.bits, IntKind.signed]
    simp only [Bool.false_and, Bool.false_eq_true, if_false]
    omega
  rw [h2, wr_id (by omega) (by omega)]
  omega

theorem getI_in {A : Type} {l : List A} {i : Int} (h0 : 0 ≤ i) (h1 : i < (l.length : Nat)) : ∃ a, getI l i = some a ∧ l[i.toNat]? = some a := by
  obtain ⟨m, rfl⟩ := Int.eq_ofNat_of_zero_le h0
  have h2 : m < l.length := by omega
  exact ⟨l[m], getI_nat (List.getElem?_eq_getElem h2), by simp [h2]⟩

theorem remI_pos {a b : Int} (ha : 0 ≤ a) (hb : 0 < b) : ∃ r, remI a b = some r ∧ 0 ≤ r ∧ r < b := by
  refine ⟨a.tmod b, ?_, Int.tmod_nonneg b ha, Int.tmod_lt_of_pos a hb⟩
  have : ¬ b = 0 := by omega
  simp [remI, this]

theorem dr_next {s : l00Src} {k : Int} (h : SK s k) (hk : k ≤ 1000000000000) : ∃ r s', t_spec_l00Src_next s = some (r, s') ∧ SK s' (k + 1) ∧ 0 ≤ r ∧ r ≤ 255 := by
  obtain ⟨h1, h2⟩ := h
  have w : wr (s.pos + 1) = s.pos + 1 := wr_id (by omega) (by omega)
  have b1 := fun a => (and255 a).1
  have b2 := fun a => (and255 a).2
  unfold t_spec_l00Src_next
  rw [w]
  by_cases c : s.pos < ((s.code.getD []).length : Nat)
  · obtain ⟨a, ha, _⟩ := getI_in h1 c
    have c2 : s.pos + 1 ≤ ((s.code.getD []).length : Nat) := by omega
    have := a.toNat_lt
    simp only [c, decide_true, cond_true, ha, obind_sm, c2]
    exact ⟨_, _, rfl, ⟨by simp only; omega, by simp only; omega⟩, by omega, by omega⟩
  · have c2 : ¬ s.pos + 1 ≤ ((s.code.getD []).length : Nat) := by omega
    simp only [c, decide_false, cond_false, c2]
    exact ⟨_, _, rfl, ⟨by simp only; omega, by simp only; omega⟩, b1 _, b2 _⟩

theorem dr_pick {s : l00Src} {k : Int} (h : SK s k) (hk : k ≤ 100000000000) {n : Int} (hn : n ≤ 60000) : ∃ r s', t_spec_l00Src_pick s n = some (r, s') ∧ SK s' (k + 2) ∧ 0 ≤ r ∧ (1 ≤ n → r < n) ∧ (n ≤ 1 → r = 0) := by
  unfold t_spec_l00Src_pick
  by_cases c : n ≤ 1
  · simp only [c, decide_true, cond_true]
    exact ⟨0, _, rfl, ⟨h.lo, by have := h.hi; simp only; omega⟩, by omega, fun _ => by omega, fun _ => rfl⟩
  · obtain ⟨r1, s1, e1, k1, p1, q1⟩ := dr_next h (by omega)
    simp only [c, decide_false, cond_false]
    have e1' : t_spec_l00Src_next ⟨s.code, s.pos, s.seed⟩ = some (r1, s1) := e1
    rw [e1', obind_sm]
    by_cases c2 : 200 < n
    · obtain ⟨r2, s2, e2, k2, p2, q2⟩ := dr_next k1 (by omega)
      have e2' : t_spec_l00Src_next ⟨s1.code, s1.pos, s1.seed⟩ = some (r2, s2) := e2
      have w1 : wr (r1 * 256) = r1 * 256 := wr_id (by omega) (by omega)
      have w2 : wr (r1 * 256 + r2) = r1 * 256 + r2 := wr_id (by omega) (by omega)
      obtain ⟨q, e3, p3, q3⟩ := remI_pos (a := r1 * 256 + r2) (b := n) (by omega) (by omega)
      simp only [c2, decide_true, cond_true, e2', obind_sm, w1, w2, e3]
      exact ⟨_, _, rfl, ⟨k2.lo, by have := k2.hi; simp only; omega⟩, p3, fun _ => q3, fun h => False.elim h⟩
    · obtain ⟨q, e3, p3, q3⟩ := remI_pos (a := r1) (b := n) (by omega) (by omega)
      simp only [c2, decide_false, cond_false, e3, obind_sm]
      exact ⟨_, _, rfl, ⟨k1.lo, by have := k1.hi; simp only; omega⟩, p3, fun _ => q3, fun h => False.elim h⟩

theorem dr_one {s : l00Src} {k : Int} (h : SK s k) (hk : k ≤ 100000000000) {n : Int} (hn : n ≤ 60000) : ∃ b s', t_spec_l00Src_one s n = some (b, s') ∧ SK s' (k + 2) := by
  obtain ⟨r, s', e, k', _⟩ := dr_pick h hk hn
  have e' : t_spec_l00Src_pick ⟨s.code, s.pos, s.seed⟩ n = some (r, s') := e
  unfold t_spec_l00Src_one
  simp only [e', obind_sm]
  exact ⟨_, _, rfl, k'⟩

theorem dr_among {s : l00Src} {k : Int} (h : SK s k) (hk : k ≤ 100000000000) {l : List Int} (h0 : l ≠ []) (hl : l.length ≤ 60000) : ∃ r s', t_spec_l00Src_among s (some l) = some (r, s') ∧ SK s' (k + 2) ∧ r ∈ l := by
  have hp : 0 < l.length := List.length_pos_iff.2 h0
  obtain ⟨r, s', e, k', p, q, _⟩ := dr_pick h hk (n := (l.length : Nat)) (by omega)
  have e' : t_spec_l00Src_pick ⟨s.code, s.pos, s.seed⟩ (l.length : Nat) = some (r, s') := e
  obtain ⟨a, ha, ha2⟩ := getI_in (l := l) p (q (by omega))
  unfold t_spec_l00Src_among
  simp only [Option.getD_some, e', obind_sm, ha]
  exact ⟨_, _, rfl, k', List.mem_of_getElem? ha2⟩

theorem wr_succ {k n : Nat} (h : k < n) (hn : n ≤ 4294967296) : wr ((k : Int) + 1) = ((k + 1 : Nat) : Int) := by
  rw [wr_id (by omega) (by omega)]
  omega

theorem get_lt {A : Type} {l : List A} {k : Nat} {a : A} (h : l[k]? = some a) : k < l.length := (List.getElem?_eq_some_iff.1 h).1

/-- A point that is one; the points of a stroke that is one. -/
structure PtV (p : Point) : Prop where
  x0 : 0 ≤ p.x
  x1 : p.x ≤ 4095
  y0 : 0 ≤ p.y
  y1 : p.y ≤ 4095
  t0 : 0 ≤ p.t
  t1 : p.t ≤ 3600000

structure StV (l : List Point) : Prop where
  pts : ∀ p ∈ l, PtV p
  inc : ∀ (k : Nat) p q, l[k]? = some p → l[k + 1]? = some q → p.t < q.t
  n1 : 1 ≤ l.length
  n2 : l.length ≤ 60

/-- Points of a bounded size. -/
structure PtB (p : Point) : Prop where
  x0 : -10000000 ≤ p.x
  x1 : p.x ≤ 10000000
  y0 : -10000000 ≤ p.y
  y1 : p.y ≤ 10000000
  t0 : -10000000 ≤ p.t
  t1 : p.t ≤ 10000000

structure StB (s : Stroke) : Prop where
  n : (s.points.getD []).length ≤ 100
  pts : ∀ p ∈ s.points.getD [], PtB p

theorem PtV.b {p : Point} (h : PtV p) : PtB p := by
  obtain ⟨h1, h2, h3, h4, h5, h6⟩ := h
  exact ⟨by omega, by omega, by omega, by omega, by omega, by omega⟩

theorem StV.b {l : List Point} (h : StV l) : StB ⟨some l⟩ := ⟨Nat.le_trans h.n2 (by omega), fun p hp => (h.pts p hp).b⟩

theorem appS_cons {A : Type} (s : Sl A) (a : A) (l : List A) : appS s (a :: l) = some (s.getD [] ++ a :: l) := by cases s <;> rfl

theorem appO_one {A : Type} (s : Sl A) (a : A) (h : (s.getD []).length ≤ 1000000) : appO s [a] = some (some (s.getD [] ++ [a])) := by
  rw [appO_some (by simp; omega), appS_cons]

theorem inc_app {l : List Point} {p : Point} (h : ∀ (k : Nat) p q, l[k]? = some p → l[k + 1]? = some q → p.t < q.t) (hp : ∀ q ∈ l, q.t < p.t) : ∀ (k : Nat) a b, (l ++ [p])[k]? = some a → (l ++ [p])[k + 1]? = some b → a.t < b.t := by
  intro k a b h1 h2
  have hk := get_lt h2
  simp only [List.length_append, List.length_cons, List.length_nil] at hk
  rw [List.getElem?_append_left (by omega)] at h1
  by_cases c : k + 1 < l.length
  · rw [List.getElem?_append_left c] at h2
    exact h k a b h1 h2
  · have e : k + 1 = l.length := by omega
    rw [e, List.getElem?_append_right (Nat.le_refl _), Nat.sub_self] at h2
    simp at h2
    subst h2
    exact hp a (List.mem_of_getElem? h1)

theorem cl_4095 (x : Int) : 0 ≤ max (0 : Int) (min 4095 x) ∧ max (0 : Int) (min 4095 x) ≤ 4095 := by omega

/-- What the drawing of a stroke keeps. -/
structure StI (s : Sl Point) (i : Nat) (t0 t : Int) : Prop where
  len : (s.getD []).length = i
  som : 0 < i → ∃ l, s = .some l
  pts : ∀ p ∈ s.getD [], PtV p ∧ t0 ≤ p.t ∧ p.t < t
  inc : ∀ (k : Nat) p q, (s.getD [])[k]? = some p → (s.getD [])[k + 1]? = some q → p.t < q.t

theorem StI.step {s : Sl Point} {i : Nat} {t0 t t' x y : Int} (h : StI s i t0 t) (hx : 0 ≤ x ∧ x ≤ 4095) (hy : 0 ≤ y ∧ y ≤ 4095) (ht : t0 ≤ t) (h0 : 0 ≤ t0) (h1 : t ≤ 3600000) (ht' : t < t') : StI (some (s.getD [] ++ [⟨x, y, t⟩])) (i + 1) t0 t' := by
  refine ⟨by simp [h.len], fun _ => ⟨_, rfl⟩, fun p hp => ?_, inc_app h.inc fun q hq => (h.pts q hq).2.2⟩
  rcases List.mem_append.1 hp with hp | hp
  · have := h.pts p hp
    exact ⟨this.1, this.2.1, by omega⟩
  · simp only [List.mem_singleton] at hp
    subst hp
    exact ⟨⟨hx.1, hx.2, hy.1, hy.2, by simp only; omega, by simp only; omega⟩, ht, ht'⟩

theorem dr_stroke {s : l00Src} {k : Int} (h : SK s k) (hk : k ≤ 1000000000) {time x y : Int} (t0 : 0 ≤ time) (t1 : time ≤ 3000000) (hx : 0 ≤ x ∧ x ≤ 4095) (hy : 0 ≤ y ∧ y ≤ 4095) :
    ∃ l s', t_spec_l02DrawStroke s time x y = some (⟨some l⟩, s') ∧ SK s' (k + 1000) ∧ StV l ∧ l.length ≤ 10 ∧ ∀ p ∈ l, time ≤ p.t ∧ p.t ≤ time + 300 := by
  obtain ⟨r1, s1, e1, k1, p1, q1, _⟩ := dr_pick h (by omega) (n := 60) (by omega)
  obtain ⟨r2, s2, e2, k2, p2, q2, _⟩ := dr_pick k1 (by omega) (n := 60) (by omega)
  obtain ⟨r3, s3, e3, k3, p3, q3, _⟩ := dr_pick k2 (by omega) (n := 10) (by omega)
  have q1' := q1 (by omega)
  have q2' := q2 (by omega)
  have q3' := q3 (by omega)
  have w1 : wr (1 + r3) = 1 + r3 := wr_id (by omega) (by omega)
  have w2 : wr (r1 - 20) = r1 - 20 := wr_id (by omega) (by omega)
  have w3 : wr (r2 - 30) = r2 - 30 := wr_id (by omega) (by omega)
  obtain ⟨N, hN⟩ := Int.eq_ofNat_of_zero_le (a := 1 + r3) (by omega)
  unfold t_spec_l02DrawStroke
  simp only [e1, e2, e3, obind_sm, w1, w2, w3]
  obtain ⟨⟨c1, c2, c3, c4⟩, f1, f2, f3⟩ := loopT_ex (step := s0_spec_l02DrawStroke) (fun i (t : (Sl UInt8) × Int × Int × (Sl Point) × Int × Int × Int × Int × Int × Int) => SK ⟨t.1, t.2.1, t.2.2.1⟩ (k + 6 + 12 * i) ∧ StI t.2.2.2.1 i time t.2.2.2.2.1 ∧ (time ≤ t.2.2.2.2.1 ∧ t.2.2.2.2.1 ≤ time + 20 * i) ∧
      (0 ≤ t.2.2.2.2.2.1 ∧ t.2.2.2.2.2.1 ≤ 4095) ∧ (0 ≤ t.2.2.2.2.2.2.1 ∧ t.2.2.2.2.2.2.1 ≤ 4095) ∧ (-100 ≤ t.2.2.2.2.2.2.2.1 ∧ t.2.2.2.2.2.2.2.1 ≤ 100) ∧ (-100 ≤ t.2.2.2.2.2.2.2.2.1 ∧ t.2.2.2.2.2.2.2.2.1 ≤ 100) ∧ t.2.2.2.2.2.2.2.2.2 = N - (i : Int))
    N (fun r => SK ⟨r.1, r.2.1, r.2.2.1⟩ (k + 6 + 12 * N) ∧ StI r.2.2.2 N time (time + 20 * N + 1))
    (fun i ⟨v1, v2, v3, v4, v5, v6, v7, v8, v9, v10⟩ hi ⟨g1, g2, g3, g4, g5, g6, g7, g8⟩ => by
      simp only at g1 g2 g3 g4 g5 g6 g7 g8
      obtain ⟨r4, s4, e4, k4, p4, q4, _⟩ := dr_pick g1 (by omega) (n := 20) (by omega)
      obtain ⟨r5, s5, e5, k5, p5, q5, _⟩ := dr_pick k4 (by omega) (n := 9) (by omega)
      obtain ⟨r6, s6, e6, k6, p6, q6, _⟩ := dr_pick k5 (by omega) (n := 9) (by omega)
      obtain ⟨b7, s7, e7, k7⟩ := dr_one k6 (by omega) (n := 3) (by omega)
      have q4' := q4 (by omega)
      have q5' := q5 (by omega)
      have q6' := q6 (by omega)
      have a0 := appO_one v4 (⟨v6, v7, v5⟩ : Point) (by rw [g2.len]; omega)
      have a0' : appS v4 [(⟨v6, v7, v5⟩ : Point)] = some (v4.getD [] ++ [⟨v6, v7, v5⟩]) := appS_cons _ _ _
      have a1 : wr (v6 + v8) = v6 + v8 := wr_id (by omega) (by omega)
      have a2 : wr (v6 + v8 + r5) = v6 + v8 + r5 := wr_id (by omega) (by omega)
      have a3 : wr (v6 + v8 + r5 - 4) = v6 + v8 + r5 - 4 := wr_id (by omega) (by omega)
      have a4 : wr (v7 + v9) = v7 + v9 := wr_id (by omega) (by omega)
      have a5 : wr (v7 + v9 + r6) = v7 + v9 + r6 := wr_id (by omega) (by omega)
      have a6 : wr (v7 + v9 + r6 - 4) = v7 + v9 + r6 - 4 := wr_id (by omega) (by omega)
      have a7 : wr (1 + r4) = 1 + r4 := wr_id (by omega) (by omega)
      have a8 : wr (v5 + (1 + r4)) = v5 + (1 + r4) := wr_id (by omega) (by omega)
      have a9 : wr (v10 - 1) = v10 - 1 := wr_id (by omega) (by omega)
      have c : 0 < v10 := by omega
      have st := g2.step (x := v6) (y := v7) (t' := v5 + (1 + r4)) g4 g5 (by omega) (by omega) (by omega) (by omega)
      cases b7 with
      | true =>
        obtain ⟨r8, s8, e8, k8, p8, q8, _⟩ := dr_pick k7 (by omega) (n := 80) (by omega)
        obtain ⟨r9, s9, e9, k9, p9, q9, _⟩ := dr_pick k8 (by omega) (n := 80) (by omega)
        have q8' := q8 (by omega)
        have q9' := q9 (by omega)
        have b1 : wr (r8 - 40) = r8 - 40 := wr_id (by omega) (by omega)
        have b2 : wr (r9 - 40) = r9 - 40 := wr_id (by omega) (by omega)
        have e : s0_spec_l02DrawStroke (v1, v2, v3, v4, v5, v6, v7, v8, v9, v10) = some (.inl (s9.code, s9.pos, s9.seed, some (v4.getD [] ++ [⟨v6, v7, v5⟩]), v5 + (1 + r4), max 0 (min 4095 (v6 + v8 + r5 - 4)), max 0 (min 4095 (v7 + v9 + r6 - 4)), r8 - 40, r9 - 40, v10 - 1)) := by
          unfold s0_spec_l02DrawStroke
          simp only [c, decide_true, cond_true, e4, e5, e6, e7, e8, e9, obind_sm, a0, a0', a1, a2, a3, a4, a5, a6, a7, a8, a9, b1, b2]
        exact .inl ⟨_, e, k9.mono (by omega), st, ⟨by simp only; omega, by simp only; omega⟩, cl_4095 _, cl_4095 _, ⟨by simp only; omega, by simp only; omega⟩, ⟨by simp only; omega, by simp only; omega⟩, by simp only; omega⟩
      | false =>
        have e : s0_spec_l02DrawStroke (v1, v2, v3, v4, v5, v6, v7, v8, v9, v10) = some (.inl (s7.code, s7.pos, s7.seed, some (v4.getD [] ++ [⟨v6, v7, v5⟩]), v5 + (1 + r4), max 0 (min 4095 (v6 + v8 + r5 - 4)), max 0 (min 4095 (v7 + v9 + r6 - 4)), v8, v9, v10 - 1)) := by
          unfold s0_spec_l02DrawStroke
          simp only [c, decide_true, cond_true, cond_false, e4, e5, e6, e7, obind_sm, a0, a0', a1, a2, a3, a4, a5, a6, a7, a8, a9]
        exact .inl ⟨_, e, k7.mono (by omega), st, ⟨by simp only; omega, by simp only; omega⟩, cl_4095 _, cl_4095 _, g6, g7, by simp only; omega⟩)
    (fun ⟨v1, v2, v3, v4, v5, v6, v7, v8, v9, v10⟩ ⟨g1, g2, g3, g4, g5, g6, g7, g8⟩ => by
      simp only at g1 g2 g3 g8
      have c : ¬ 0 < v10 := by omega
      have e : s0_spec_l02DrawStroke (v1, v2, v3, v4, v5, v6, v7, v8, v9, v10) = some (.inr (v1, v2, v3, v4)) := by
        unfold s0_spec_l02DrawStroke
        simp only [c, decide_false, cond_false]
      refine ⟨_, e, g1, g2.len, g2.som, fun p hp => ?_, g2.inc⟩
      have := g2.pts p hp
      exact ⟨this.1, this.2.1, by omega⟩)
    (s := (s3.code, s3.pos, s3.seed, none, time, x, y, r1 - 20, r2 - 30, 1 + r3)) ⟨k3.mono (by omega), ⟨rfl, fun h => by omega, fun p hp => (by cases hp), fun k p q h1 _ => (by simp at h1)⟩, ⟨by simp only; omega, by simp only; omega⟩, hx, hy, ⟨by simp only; omega, by simp only; omega⟩, ⟨by simp only; omega, by simp only; omega⟩, by simp only; omega⟩
  simp only at f2 f3
  obtain ⟨l, rfl⟩ := f3.som (by omega)
  have hl : l.length = N := f3.len
  rw [f1]
  refine ⟨l, _, rfl, f2.mono (by omega), ⟨fun p hp => (f3.pts p hp).1, f3.inc, by omega, by omega⟩, by omega, fun p hp => ?_⟩
  have := f3.pts p hp
  omega

theorem last_ok {l : List Point} (h : StV l) : ∃ p, t_spec_l02Last ⟨some l⟩ = some p.t ∧ l[l.length - 1]? = some p ∧ p ∈ l ∧ ∀ q ∈ l, q.t ≤ p.t := by
  have h1 := h.n1
  have h2 := h.n2
  obtain ⟨p, hp⟩ : ∃ p, l[l.length - 1]? = some p := ⟨l[l.length - 1], List.getElem?_eq_getElem (by omega)⟩
  have w : wr (((l.length : Nat) : Int) - 1) = ((l.length - 1 : Nat) : Int) := by rw [wr_id (by omega) (by omega)]; omega
  refine ⟨p, ?_, hp, List.mem_of_getElem? hp, fun q hq => ?_⟩
  · unfold t_spec_l02Last
    simp only [Option.getD_some, w, getI_nat hp, obind_sm]
  · obtain ⟨k, hk⟩ := List.mem_iff_getElem?.1 hq
    have key : ∀ (d k : Nat) (a b : Point), l[k]? = some a → l[k + d]? = some b → a.t ≤ b.t := by
      intro d
      induction d with
      | zero => intro k a b h1 h2; rw [Nat.add_zero, h1] at h2; cases h2; exact Int.le_refl _
      | succ d ih =>
        intro k a b h1 h2
        have hlt := get_lt h2
        obtain ⟨m, hm⟩ : ∃ m, l[k + d]? = some m := ⟨l[k + d], List.getElem?_eq_getElem (by omega)⟩
        have := ih k a m h1 hm
        have := h.inc (k + d) m b hm (by rw [Nat.add_assoc]; exact h2)
        omega
    have hk2 := get_lt hk
    exact key (l.length - 1 - k) k q p hk (by rw [← hp]; congr 1; omega)

/-- Ink that is one. -/
structure InkV (L : List Stroke) : Prop where
  st : ∀ s ∈ L, ∃ l, s = ⟨some l⟩ ∧ StV l
  inc : ∀ (k : Nat) l l', L[k]? = some ⟨some l⟩ → L[k + 1]? = some ⟨some l'⟩ → ∀ p ∈ l, ∀ q ∈ l', p.t < q.t
  n : L.length ≤ 16

/-- What the drawing of ink keeps. -/
structure InkI (s : Sl Stroke) (i : Nat) (t : Int) : Prop where
  len : (s.getD []).length = i
  som : 0 < i → ∃ l, s = .some l
  st : ∀ x ∈ s.getD [], ∃ l, x = ⟨some l⟩ ∧ StV l ∧ ∀ p ∈ l, p.t < t
  inc : ∀ (k : Nat) l l', (s.getD [])[k]? = some ⟨some l⟩ → (s.getD [])[k + 1]? = some ⟨some l'⟩ → ∀ p ∈ l, ∀ q ∈ l', p.t < q.t

theorem InkI.step {s : Sl Stroke} {i : Nat} {t t' : Int} {l : List Point} (h : InkI s i t) (hl : StV l) (h0 : ∀ p ∈ l, t ≤ p.t ∧ p.t < t') (ht : t ≤ t') : InkI (some (s.getD [] ++ [⟨some l⟩])) (i + 1) t' := by
  refine ⟨by simp [h.len], fun _ => ⟨_, rfl⟩, fun x hx => ?_, ?_⟩
  · rcases List.mem_append.1 hx with hx | hx
    · obtain ⟨l', e, h1, h2⟩ := h.st x hx
      exact ⟨l', e, h1, fun p hp => Int.lt_of_lt_of_le (h2 p hp) ht⟩
    · simp only [List.mem_singleton] at hx
      exact ⟨l, hx, hl, fun p hp => (h0 p hp).2⟩
  · intro k a b h1 h2
    simp only [Option.getD_some] at h1 h2
    have hk := get_lt h2
    simp only [List.length_append, List.length_cons, List.length_nil] at hk
    rw [List.getElem?_append_left (by omega)] at h1
    by_cases c : k + 1 < (s.getD []).length
    · rw [List.getElem?_append_left c] at h2
      exact h.inc k a b h1 h2
    · have e : k + 1 = (s.getD []).length := by omega
      rw [e, List.getElem?_append_right (Nat.le_refl _), Nat.sub_self] at h2
      simp only [List.getElem?_cons_zero, Option.some.injEq, Stroke.mk.injEq] at h2
      subst h2
      intro p hp q hq
      obtain ⟨l', e', _, h3⟩ := h.st _ (List.mem_of_getElem? h1)
      simp only [Stroke.mk.injEq, Option.some.injEq] at e'
      subst e'
      exact Int.lt_of_lt_of_le (h3 p hp) (h0 q hq).1

theorem dr_ink {s : l00Src} {k : Int} (h : SK s k) (hk : k ≤ 100000000) {most : Int} (h1 : 0 ≤ most) (h2 : most ≤ 10) : ∃ L s', t_spec_l02Draw s most = some (⟨L⟩, s') ∧ SK s' (k + 20000) ∧ InkV (L.getD []) ∧ (L.getD []).length ≤ most := by
  obtain ⟨r1, s1, e1, k1, p1, q1, _⟩ := dr_pick h (by omega) (n := 100) (by omega)
  obtain ⟨r2, s2, e2, k2, p2, q2, _⟩ := dr_pick k1 (by omega) (n := 200) (by omega)
  obtain ⟨r3, s3, e3, k3, p3, q3, _⟩ := dr_pick k2 (by omega) (n := most + 1) (by omega)
  have q1' := q1 (by omega)
  have q2' := q2 (by omega)
  have q3' := q3 (by omega)
  have w0 : wr (most + 1) = most + 1 := wr_id (by omega) (by omega)
  have w1 : wr (100 + r2) = 100 + r2 := wr_id (by omega) (by omega)
  obtain ⟨N, hN⟩ := Int.eq_ofNat_of_zero_le (a := r3) (by omega)
  unfold t_spec_l02Draw
  simp only [e1, e2, w0, e3, obind_sm, w1]
  obtain ⟨⟨c1, c2, c3, c4⟩, f1, f2, f3⟩ := loopT_ex (step := s0_spec_l02Draw) (fun i (t : (Sl UInt8) × Int × Int × (Sl Stroke) × Int × Int × Int) => SK ⟨t.1, t.2.1, t.2.2.1⟩ (k + 6 + 1100 * i) ∧ InkI t.2.2.2.1 i t.2.2.2.2.1 ∧ (0 ≤ t.2.2.2.2.1 ∧ t.2.2.2.2.1 ≤ 100 + 600 * i) ∧
      (0 ≤ t.2.2.2.2.2.1 ∧ t.2.2.2.2.2.1 ≤ 300 + 200 * i) ∧ t.2.2.2.2.2.2 = N - (i : Int))
    N (fun r => SK ⟨r.1, r.2.1, r.2.2.1⟩ (k + 6 + 1100 * N) ∧ ∃ t, InkI r.2.2.2 N t)
    (fun i ⟨v1, v2, v3, v4, v5, v6, v7⟩ hi ⟨g1, g2, g3, g4, g5⟩ => by
      simp only at g1 g2 g3 g4 g5
      obtain ⟨r4, s4, e4, k4, p4, q4, _⟩ := dr_pick g1 (by omega) (n := 200) (by omega)
      have q4' := q4 (by omega)
      have a1 : wr (300 + r4) = 300 + r4 := wr_id (by omega) (by omega)
      obtain ⟨l, s5, e5, k5, sv, _, st⟩ := dr_stroke k4 (by omega) (time := v5) (x := v6) (y := 300 + r4) (by omega) (by omega) (by omega) (by omega)
      obtain ⟨p, e6, _, pm, pl⟩ := last_ok sv
      obtain ⟨r7, s7, e7, k7, p7, q7, _⟩ := dr_pick k5 (by omega) (n := 200) (by omega)
      obtain ⟨r8, s8, e8, k8, p8, q8, _⟩ := dr_pick k7 (by omega) (n := 200) (by omega)
      have q7' := q7 (by omega)
      have q8' := q8 (by omega)
      have pt := st p pm
      have a0 := appO_one v4 (⟨some l⟩ : Stroke) (by rw [g2.len]; omega)
      have a0' : appS v4 [(⟨some l⟩ : Stroke)] = some (v4.getD [] ++ [⟨some l⟩]) := appS_cons _ _ _
      have a2 : wr (p.t + 1) = p.t + 1 := wr_id (by omega) (by omega)
      have a3 : wr (p.t + 1 + r7) = p.t + 1 + r7 := wr_id (by omega) (by omega)
      have a4 : wr (v6 + r8) = v6 + r8 := wr_id (by omega) (by omega)
      have a5 : wr (v7 - 1) = v7 - 1 := wr_id (by omega) (by omega)
      have c : 0 < v7 := by omega
      have e : s0_spec_l02Draw (v1, v2, v3, v4, v5, v6, v7) = some (.inl (s8.code, s8.pos, s8.seed, some (v4.getD [] ++ [⟨some l⟩]), p.t + 1 + r7, v6 + r8, v7 - 1)) := by
        unfold s0_spec_l02Draw
        simp only [c, decide_true, cond_true, e4, a1, e5, e6, e7, e8, obind_sm, a0, a0', a2, a3, a4, a5]
      have nx := g2.step (t' := p.t + 1 + r7) sv (fun q hq => ⟨(st q hq).1, by have := pl q hq; omega⟩) (by omega)
      exact .inl ⟨_, e, k8.mono (by omega), nx, ⟨by simp only; omega, by simp only; omega⟩, ⟨by simp only; omega, by simp only; omega⟩, by simp only; omega⟩)
    (fun ⟨v1, v2, v3, v4, v5, v6, v7⟩ ⟨g1, g2, g3, g4, g5⟩ => by
      simp only at g1 g2 g5
      have c : ¬ 0 < v7 := by omega
      have e : s0_spec_l02Draw (v1, v2, v3, v4, v5, v6, v7) = some (.inr (v1, v2, v3, v4)) := by
        unfold s0_spec_l02Draw
        simp only [c, decide_false, cond_false]
      exact ⟨_, e, g1, v5, g2⟩)
    (s := (s3.code, s3.pos, s3.seed, none, r1, 100 + r2, r3)) ⟨k3.mono (by omega), ⟨rfl, fun h => by omega, fun p hp => (by cases hp), fun k p q h1 _ => (by simp at h1)⟩, ⟨by simp only; omega, by simp only; omega⟩, ⟨by simp only; omega, by simp only; omega⟩, by simp only; omega⟩
  simp only at f2 f3
  obtain ⟨t, f3⟩ := f3
  rw [f1]
  refine ⟨c4, _, rfl, f2.mono (by omega), ⟨fun x hx => ?_, f3.inc, by rw [f3.len]; omega⟩, by rw [f3.len]; omega⟩
  obtain ⟨l, e, h1, _⟩ := f3.st x hx
  exact ⟨l, e, h1⟩

theorem dr_long {n : Int} (h0 : 0 ≤ n) (h1 : n ≤ 100) : ∃ s, t_spec_l02Long n = some s ∧ StB s := by
  obtain ⟨N, rfl⟩ := Int.eq_ofNat_of_zero_le h0
  obtain ⟨r, f1, f2, f3⟩ := loopT_ex (step := s0_spec_l02Long N) (fun i (t : (Sl Point) × Int) => (t.1.getD []).length = i ∧ (∀ p ∈ t.1.getD [], PtB p) ∧ t.2 = (i : Int)) N (fun r => (r.getD []).length = N ∧ ∀ p ∈ r.getD [], PtB p)
    (fun i ⟨v1, v2⟩ hi ⟨g1, g2, g3⟩ => by
      simp only at g1 g2 g3
      subst g3
      have c : (i : Int) < (N : Int) := by omega
      have dv : 0 ≤ Int.tdiv (i : Int) 2 ∧ Int.tdiv (i : Int) 2 ≤ i := by rw [Int.tdiv_eq_ediv_of_nonneg (by omega)]; omega
      have w1 : wr (10 + (i : Int)) = 10 + i := wr_id (by omega) (by omega)
      have w2 : wr (Int.tdiv (i : Int) 2) = Int.tdiv (i : Int) 2 := wr_id (by omega) (by omega)
      have w3 : wr (50 - Int.tdiv (i : Int) 2) = 50 - Int.tdiv (i : Int) 2 := wr_id (by omega) (by omega)
      have w4 : wr (3 * (i : Int)) = 3 * i := wr_id (by omega) (by omega)
      have a0 := appO_one v1 (⟨10 + (i : Int), 50 - Int.tdiv (i : Int) 2, 3 * (i : Int)⟩ : Point) (by omega)
      have a0' : appS v1 [(⟨10 + (i : Int), 50 - Int.tdiv (i : Int) 2, 3 * (i : Int)⟩ : Point)] = some (v1.getD [] ++ [⟨10 + (i : Int), 50 - Int.tdiv (i : Int) 2, 3 * (i : Int)⟩]) := appS_cons _ _ _
      refine .inl ⟨(some (v1.getD [] ++ [⟨10 + (i : Int), 50 - Int.tdiv (i : Int) 2, 3 * (i : Int)⟩]), ((i + 1 : Nat) : Int)), ?_, by simp [g1], fun p hp => ?_, rfl⟩
      · unfold s0_spec_l02Long
        simp only [c, decide_true, cond_true, w1, w2, w3, w4, a0, a0', obind_sm, wr_succ hi (by omega)]
      · rcases List.mem_append.1 hp with hp | hp
        · exact g2 p hp
        · simp only [List.mem_singleton] at hp
          subst hp
          exact ⟨by simp only; omega, by simp only; omega, by simp only; omega, by simp only; omega, by simp only; omega, by simp only; omega⟩)
    (fun ⟨v1, v2⟩ ⟨g1, g2, g3⟩ => by
      simp only at g1 g2 g3
      subst g3
      refine ⟨v1, ?_, g1, g2⟩
      unfold s0_spec_l02Long
      simp only [Int.lt_irrefl, decide_false, cond_false])
    (s := (none, 0)) ⟨rfl, fun p hp => (by cases hp), rfl⟩
  refine ⟨⟨r⟩, ?_, by simp only; omega, f3⟩
  unfold t_spec_l02Long
  simp only [f1, obind_sm]

theorem InkV.b {L : List Stroke} (h : InkV L) : ∀ x ∈ L, StB x := fun x hx => by
  obtain ⟨l, rfl, hl⟩ := h.st x hx
  exact hl.b

theorem set_st {L : List Stroke} {k : Int} {l : List Point} {q : Point} (h : ∀ x ∈ L, StB x) (hl : StB ⟨some l⟩) (hq : PtB q) : ∀ x ∈ (setS (some L) k (⟨setS (some l) 0 q⟩ : Stroke)).getD [], StB x := by
  intro x hx
  simp only [setS, Option.map_some, Option.getD_some] at hx
  rcases List.mem_or_eq_of_mem_set hx with hx | rfl
  · exact h x hx
  · refine ⟨by simpa using hl.n, fun p hp => ?_⟩
    simp only [Option.getD_some] at hp
    rcases List.mem_or_eq_of_mem_set hp with hp | rfl
    · exact hl.pts p (by simpa using hp)
    · exact hq

theorem dr_bent {s : l00Src} {k : Int} (h : SK s k) (hk : k ≤ 10000000) : ∃ L s', t_spec_l02Bent s = some (⟨L⟩, s') ∧ SK s' (k + 30000) ∧ (L.getD []).length ≤ 100 ∧ ∀ x ∈ L.getD [], StB x := by
  obtain ⟨L, s1, e1, k1, iv, il⟩ := dr_ink h (by omega) (most := 5) (by omega) (by omega)
  obtain ⟨r2, s2, e2, k2, p2, q2, _⟩ := dr_pick k1 (by omega) (n := 20) (by omega)
  have q2' := q2 (by omega)
  have ib := iv.b
  have first : 0 < (((L.getD []).length : Nat) : Int) → ∀ r : Int, 0 ≤ r → r < (((L.getD []).length : Nat) : Int) → ∃ L' l p, L = some L' ∧ getI (L.getD []) r = some ⟨some l⟩ ∧ getI l 0 = some p ∧ StV l := fun h0 r hr0 hr1 => by
    obtain ⟨x, hx, hx2⟩ := getI_in hr0 hr1
    obtain ⟨l, rfl, hl⟩ := iv.st x (List.mem_of_getElem? hx2)
    obtain ⟨p, hp, _⟩ := getI_in (l := l) (i := 0) (by omega) (by have := hl.n1; omega)
    cases L with
    | none => simp at h0
    | some L' => exact ⟨L', l, p, rfl, hx, hp, hl⟩
  unfold t_spec_l02Bent
  simp only [e1, e2, obind_sm]
  by_cases c0 : r2 = 0
  · have d0 : decide (r2 = 0) = true := decide_eq_true c0
    have a0 := appO_one L (⟨none⟩ : Stroke) (by omega)
    have a0' : appS L [(⟨none⟩ : Stroke)] = some (L.getD [] ++ [⟨none⟩]) := appS_cons _ _ _
    simp only [d0, cond_true, a0, a0', obind_sm]
    refine ⟨_, _, rfl, k2.mono (by omega), by simp; omega, fun x hx => ?_⟩
    rcases List.mem_append.1 hx with hx | hx
    · exact ib x hx
    · simp only [List.mem_singleton] at hx
      subst hx
      exact ⟨by simp, fun p hp => by cases hp⟩
  have d0 : decide (r2 = 0) = false := decide_eq_false c0
  by_cases c1 : r2 = 1
  · have d1 : decide (r2 = 1) = true := decide_eq_true c1
    by_cases n0 : 0 < (((L.getD []).length : Nat) : Int)
    · obtain ⟨r3, s3, e3, k3, p3, q3, _⟩ := dr_pick k2 (by omega) (n := (((L.getD []).length : Nat) : Int)) (by omega)
      have q3' := q3 (by omega)
      obtain ⟨L', l, p, rfl, g1, g2, hl⟩ := first n0 r3 p3 q3'
      simp only [Option.getD_some] at n0 e3 g1 ib
      obtain ⟨r4, s4, e4, k4, m4⟩ := dr_among k3 (by omega) (l := [-1, 4095, 4096]) (by simp) (by simp)
      simp only [d0, d1, decide_true, decide_false, cond_true, cond_false, n0, e3, obind_sm, g1, Option.getD_some, g2, e4]
      have pb := (hl.pts p (List.mem_of_getElem? (getI_iff.1 g2).2)).b
      refine ⟨_, _, rfl, k4.mono (by omega), by simp only [setS, Option.map_some, Option.getD_some, List.length_set] at il ⊢; omega, set_st ib hl.b ⟨?_, ?_, pb.y0, pb.y1, pb.t0, pb.t1⟩⟩
      all_goals
        simp only [List.mem_cons, List.not_mem_nil, or_false] at m4
        simp only
        omega
    · simp only [d0, d1, decide_true, decide_false, cond_true, cond_false, n0]
      exact ⟨_, _, rfl, k2.mono (by omega), by omega, ib⟩
  have d1 : decide (r2 = 1) = false := decide_eq_false c1
  by_cases c2 : r2 = 2
  · have d2 : decide (r2 = 2) = true := decide_eq_true c2
    by_cases n0 : 0 < (((L.getD []).length : Nat) : Int)
    · obtain ⟨r3, s3, e3, k3, p3, q3, _⟩ := dr_pick k2 (by omega) (n := (((L.getD []).length : Nat) : Int)) (by omega)
      have q3' := q3 (by omega)
      obtain ⟨L', l, p, rfl, g1, g2, hl⟩ := first n0 r3 p3 q3'
      simp only [Option.getD_some] at n0 e3 g1 ib
      obtain ⟨r4, s4, e4, k4, m4⟩ := dr_among k3 (by omega) (l := [-1, 0, 3600000, 3600001]) (by simp) (by simp)
      simp only [d0, d1, d2, decide_true, decide_false, cond_true, cond_false, n0, e3, obind_sm, g1, Option.getD_some, g2, e4]
      have pb := (hl.pts p (List.mem_of_getElem? (getI_iff.1 g2).2)).b
      refine ⟨_, _, rfl, k4.mono (by omega), by simp only [setS, Option.map_some, Option.getD_some, List.length_set] at il ⊢; omega, set_st ib hl.b ⟨pb.x0, pb.x1, pb.y0, pb.y1, ?_, ?_⟩⟩
      all_goals
        simp only [List.mem_cons, List.not_mem_nil, or_false] at m4
        simp only
        omega
    · simp only [d0, d1, d2, decide_true, decide_false, cond_true, cond_false, n0]
      exact ⟨_, _, rfl, k2.mono (by omega), by omega, ib⟩
  have d2 : decide (r2 = 2) = false := decide_eq_false c2
  by_cases c3 : r2 = 3
  · have d3 : decide (r2 = 3) = true := decide_eq_true c3
    obtain ⟨r3, s3, e3, k3, p3, q3, _⟩ := dr_pick k2 (by omega) (n := 2) (by omega)
    have q3' := q3 (by omega)
    have w : wr (60 + r3) = 60 + r3 := wr_id (by omega) (by omega)
    obtain ⟨x, e4, hx⟩ := dr_long (n := 60 + r3) (by omega) (by omega)
    simp only [d0, d1, d2, d3, decide_true, decide_false, cond_true, cond_false, e3, w, e4, obind_sm]
    refine ⟨_, _, rfl, k3.mono (by omega), by simp, fun y hy => ?_⟩
    simp only [Option.getD_some, List.mem_singleton] at hy
    subst hy
    exact hx
  have d3 : decide (r2 = 3) = false := decide_eq_false c3
  by_cases c4 : r2 = 4
  · have d4 : decide (r2 = 4) = true := decide_eq_true c4
    obtain ⟨r3, s3, e3, k3, p3, q3, _⟩ := dr_pick k2 (by omega) (n := 2) (by omega)
    have q3' := q3 (by omega)
    have w : wr (16 + r3) = 16 + r3 := wr_id (by omega) (by omega)
    obtain ⟨N, hN⟩ := Int.eq_ofNat_of_zero_le (a := 16 + r3) (by omega)
    obtain ⟨r, f1, f2, f3⟩ := loopT_ex (step := s0_spec_l02Bent (r3, s3)) (fun i (t : (Sl Stroke) × Int) => (t.1.getD []).length = i ∧ (∀ p ∈ t.1.getD [], StB p) ∧ t.2 = (i : Int)) N (fun r => (r.getD []).length = N ∧ ∀ p ∈ r.getD [], StB p)
      (fun i ⟨v1, v2⟩ hi ⟨g1, g2, g3⟩ => by
        simp only at g1 g2 g3
        subst g3
        have c : (i : Int) < 16 + r3 := by omega
        have a0 := appO_one v1 (⟨some [⟨(i : Int), 5, (i : Int)⟩]⟩ : Stroke) (by omega)
        have a0' : appS v1 [(⟨some [⟨(i : Int), 5, (i : Int)⟩]⟩ : Stroke)] = some (v1.getD [] ++ [⟨some [⟨(i : Int), 5, (i : Int)⟩]⟩]) := appS_cons _ _ _
        refine .inl ⟨(some (v1.getD [] ++ [⟨some [⟨(i : Int), 5, (i : Int)⟩]⟩]), ((i + 1 : Nat) : Int)), ?_, by simp [g1], fun p hp => ?_, rfl⟩
        · unfold s0_spec_l02Bent
          simp only [w, c, decide_true, cond_true, a0, a0', obind_sm, wr_succ hi (by omega)]
        · rcases List.mem_append.1 hp with hp | hp
          · exact g2 p hp
          · simp only [List.mem_singleton] at hp
            subst hp
            refine ⟨by simp, fun q hq => ?_⟩
            simp only [Option.getD_some, List.mem_singleton] at hq
            subst hq
            exact ⟨by simp only; omega, by simp only; omega, by simp only; omega, by simp only; omega, by simp only; omega, by simp only; omega⟩)
      (fun ⟨v1, v2⟩ ⟨g1, g2, g3⟩ => by
        simp only at g1 g2 g3
        subst g3
        have c : ¬ (N : Int) < 16 + r3 := by omega
        refine ⟨v1, ?_, g1, g2⟩
        unfold s0_spec_l02Bent
        simp only [w, c, decide_false, cond_false])
      (s := (none, 0)) ⟨rfl, fun p hp => (by cases hp), rfl⟩
    simp only [d0, d1, d2, d3, d4, decide_true, decide_false, cond_true, cond_false, e3, f1, obind_sm]
    exact ⟨_, _, rfl, k3.mono (by omega), by omega, f3⟩
  · have d4 : decide (r2 = 4) = false := decide_eq_false c4
    simp only [d0, d1, d2, d3, d4, cond_false]
    exact ⟨_, _, rfl, k2.mono (by omega), by omega, ib⟩

theorem dr_l05 {s : l00Src} {k : Int} (h : SK s k) (hk : k ≤ 1000000) : ∃ st s', t_spec_l05Stroke s = some (st, s') ∧ SK s' (k + 40000) ∧ StB st := by
  obtain ⟨b1, s1, e1, k1⟩ := dr_one h (by omega) (n := 12) (by omega)
  unfold t_spec_l05Stroke
  simp only [e1, obind_sm]
  cases b1 with
  | true =>
    obtain ⟨L, s2, e2, k2, ll, lb⟩ := dr_bent k1 (by omega)
    simp only [cond_true, e2, obind_sm]
    by_cases n0 : 0 < (((L.getD []).length : Nat) : Int)
    · obtain ⟨x, g1, g2⟩ := getI_in (l := L.getD []) (i := 0) (by omega) (by omega)
      simp only [n0, decide_true, cond_true, g1, obind_sm]
      exact ⟨_, _, rfl, k2.mono (by omega), lb _ (List.mem_of_getElem? g2)⟩
    · simp only [n0, decide_false, cond_false]
      exact ⟨_, _, rfl, k2.mono (by omega), by simp, fun p hp => by cases hp⟩
  | false =>
    obtain ⟨b2, s2, e2, k2⟩ := dr_one k1 (by omega) (n := 2) (by omega)
    simp only [cond_false, e2, obind_sm]
    cases b2 with
    | true =>
      obtain ⟨r3, s3, e3, k3, p3, q3, _⟩ := dr_pick k2 (by omega) (n := 60) (by omega)
      obtain ⟨r4, s4, e4, k4, p4, q4, _⟩ := dr_pick k3 (by omega) (n := 60) (by omega)
      have q3' := q3 (by omega)
      have q4' := q4 (by omega)
      have w1 : wr (300 + r3) = 300 + r3 := wr_id (by omega) (by omega)
      have w2 : wr (300 + r4) = 300 + r4 := wr_id (by omega) (by omega)
      obtain ⟨l, s5, e5, k5, sv, _, _⟩ := dr_stroke k4 (by omega) (time := 5) (x := 300 + r3) (y := 300 + r4) (by omega) (by omega) (by omega) (by omega)
      simp only [cond_true, e3, e4, w1, w2, e5, obind_sm]
      exact ⟨_, _, rfl, k5.mono (by omega), sv.b⟩
    | false =>
      obtain ⟨r3, s3, e3, k3, p3, q3, _⟩ := dr_pick k2 (by omega) (n := 7) (by omega)
      have q3' := q3 (by omega)
      have w1 : wr (1 + r3) = 1 + r3 := wr_id (by omega) (by omega)
      obtain ⟨N, hN⟩ := Int.eq_ofNat_of_zero_le (a := 1 + r3) (by omega)
      obtain ⟨⟨c1, c2, c3, c4⟩, f1, f2, f3, f4⟩ := loopT_ex (step := s0_spec_l05Stroke) (fun i (t : (Sl UInt8) × Int × Int × (Sl Point) × Int) => SK ⟨t.1, t.2.1, t.2.2.1⟩ (k + 6 + 4 * i) ∧ (t.2.2.2.1.getD []).length = i ∧ (∀ p ∈ t.2.2.2.1.getD [], PtB p) ∧ t.2.2.2.2 = N - (i : Int))
        N (fun r => SK ⟨r.1, r.2.1, r.2.2.1⟩ (k + 6 + 4 * N) ∧ (r.2.2.2.getD []).length = N ∧ ∀ p ∈ r.2.2.2.getD [], PtB p)
        (fun i ⟨v1, v2, v3, v4, v5⟩ hi ⟨g1, g2, g3, g4⟩ => by
          simp only at g1 g2 g3 g4
          obtain ⟨r4, s4, e4, k4, p4, q4, _⟩ := dr_pick g1 (by omega) (n := 9) (by omega)
          obtain ⟨r5, s5, e5, k5, p5, q5, _⟩ := dr_pick k4 (by omega) (n := 9) (by omega)
          have q4' := q4 (by omega)
          have q5' := q5 (by omega)
          have a0 := appO_one v4 (⟨r4, r5, (((v4.getD []).length : Nat) : Int)⟩ : Point) (by omega)
          have a0' : appS v4 [(⟨r4, r5, (((v4.getD []).length : Nat) : Int)⟩ : Point)] = some (v4.getD [] ++ [⟨r4, r5, (((v4.getD []).length : Nat) : Int)⟩]) := appS_cons _ _ _
          have a5 : wr (v5 - 1) = v5 - 1 := wr_id (by omega) (by omega)
          have c : 0 < v5 := by omega
          have e : s0_spec_l05Stroke (v1, v2, v3, v4, v5) = some (.inl (s5.code, s5.pos, s5.seed, some (v4.getD [] ++ [⟨r4, r5, (((v4.getD []).length : Nat) : Int)⟩]), v5 - 1)) := by
            unfold s0_spec_l05Stroke
            simp only [c, decide_true, cond_true, e4, e5, obind_sm, a0, a0', a5]
          refine .inl ⟨_, e, k5.mono (by omega), by simp [g2], fun p hp => ?_, by simp only; omega⟩
          rcases List.mem_append.1 hp with hp | hp
          · exact g3 p hp
          · simp only [List.mem_singleton] at hp
            subst hp
            exact ⟨by simp only; omega, by simp only; omega, by simp only; omega, by simp only; omega, by simp only; omega, by simp only; omega⟩)
        (fun ⟨v1, v2, v3, v4, v5⟩ ⟨g1, g2, g3, g4⟩ => by
          simp only at g1 g2 g3 g4
          have c : ¬ 0 < v5 := by omega
          have e : s0_spec_l05Stroke (v1, v2, v3, v4, v5) = some (.inr (v1, v2, v3, v4)) := by
            unfold s0_spec_l05Stroke
            simp only [c, decide_false, cond_false]
          exact ⟨_, e, g1, g2, g3⟩)
        (s := (s3.code, s3.pos, s3.seed, none, 1 + r3)) ⟨k3.mono (by omega), rfl, fun p hp => (by cases hp), by simp only; omega⟩
      simp only at f2 f3 f4
      simp only [cond_false, e3, w1, obind_sm]
      rw [f1]
      exact ⟨_, _, rfl, f2.mono (by omega), by simp only; omega, f4⟩

def vP (p : Point) : Bool := within p.x 0 4095 && within p.y 0 4095 && within p.t 0 3600000

def fV (l : List Point) (k : Nat) (a : Point) : Option Bool := bif (!vP a || (decide (0 < k) && decide (a.t ≤ (l.getD (k - 1) ⟨0, 0, 0⟩).t))) then some false else none

/-- The points are those of a stroke that is one. -/
def vS (l : List Point) : Bool := match firstL (fV l) l 0 with
  | none => decide (1 ≤ l.length) && decide (l.length ≤ 60)
  | some r => r

theorem validPoint_vP (p : Point) : t_impl_validPoint p = some (vP p) := by
  unfold t_impl_validPoint vP
  simp only [obind_sm]
  cases within p.x 0 4095 <;> cases within p.y 0 4095 <;> cases within p.t 0 3600000 <;> rfl

theorem l02Point_vP (p : Point) : t_spec_l02Point p = some (vP p) := by
  unfold t_spec_l02Point vP
  simp only [obind_sm]
  cases within p.x 0 4095 <;> cases within p.y 0 4095 <;> cases within p.t 0 3600000 <;> rfl

theorem vP_iff {p : Point} : vP p = true ↔ PtV p := by
  unfold vP within
  simp only [Bool.and_eq_true, decide_eq_true_eq]
  constructor
  · rintro ⟨⟨⟨h1, h2⟩, h3, h4⟩, h5, h6⟩
    exact ⟨h1, h2, h3, h4, h5, h6⟩
  · rintro ⟨h1, h2, h3, h4, h5, h6⟩
    exact ⟨⟨⟨h1, h2⟩, h3, h4⟩, h5, h6⟩

theorem prev_get {A : Type} {l : List A} {k : Nat} {d : A} (hk : k < l.length) (h0 : 0 < k) (hl : l.length ≤ 4294967296) : getI l (wr ((k : Int) - 1)) = some (l.getD (k - 1) d) := by
  have w : wr ((k : Int) - 1) = ((k - 1 : Nat) : Int) := by rw [wr_id (by omega) (by omega)]; omega
  rw [w]
  apply getI_nat
  rw [List.getD_eq_getElem?_getD, List.getElem?_eq_getElem (by omega)]
  rfl

theorem validStroke_vS (s : Stroke) (hl : (s.points.getD []).length ≤ 4294967296) : t_impl_ValidStroke s = some (vS (s.points.getD [])) := by
  obtain ⟨l, hL⟩ : ∃ l, s.points.getD [] = l := ⟨_, rfl⟩
  rw [hL] at hl ⊢
  have lp := loopT_first (step := s0_impl_ValidStroke s) l (fV l) (.inl ()) .inr
    (fun k a ha => by
      have hk := get_lt ha
      have c : (k : Int) < (l.length : Nat) := by omega
      have ws := wr_succ hk hl
      unfold s0_impl_ValidStroke fV
      simp only [hL, c, decide_true, cond_true, getI_nat ha, obind_sm, validPoint_vP, ws]
      by_cases k0 : k = 0
      · have D1 : decide ((0 : Int) < (k : Int)) = false := decide_eq_false (by omega)
        have D2 : decide (0 < k) = false := decide_eq_false (by omega)
        rw [D1, D2]
        cases vP a <;> rfl
      · have D1 : decide ((0 : Int) < (k : Int)) = true := decide_eq_true (by omega)
        have D2 : decide (0 < k) = true := decide_eq_true (by omega)
        rw [D1, D2, prev_get (d := ⟨0, 0, 0⟩) hk (by omega) hl]
        simp only [obind_sm]
        cases vP a <;> cases decide (a.t ≤ (l.getD (k - 1) ⟨0, 0, 0⟩).t) <;> rfl)
    (by
      unfold s0_impl_ValidStroke
      simp only [hL, Int.lt_irrefl, decide_false, cond_false])
  have d1 : decide ((1 : Int) ≤ ((l.length : Nat) : Int)) = decide (1 ≤ l.length) := decide_eq_decide.2 (by omega)
  have d2 : decide (((l.length : Nat) : Int) ≤ 60) = decide (l.length ≤ 60) := decide_eq_decide.2 (by omega)
  unfold t_impl_ValidStroke vS
  rw [lp]
  cases firstL (fV l) l 0 with
  | none =>
    simp only [obind_sm, hL, d1, d2]
    cases decide (1 ≤ l.length) <;> cases decide (l.length ≤ 60) <;> rfl
  | some r => rfl

theorem l02Stroke_vS (s : Stroke) (hl : (s.points.getD []).length ≤ 4294967296) : t_spec_l02Stroke s = some (vS (s.points.getD [])) := by
  obtain ⟨l, hL⟩ : ∃ l, s.points.getD [] = l := ⟨_, rfl⟩
  rw [hL] at hl ⊢
  have lp := loopT_first (step := s0_spec_l02Stroke s) l (fV l) (.inl ()) .inr
    (fun k a ha => by
      have hk := get_lt ha
      have c : (k : Int) < (l.length : Nat) := by omega
      have ws := wr_succ hk hl
      unfold s0_spec_l02Stroke fV
      simp only [hL, c, decide_true, cond_true, getI_nat ha, obind_sm, l02Point_vP, ws]
      by_cases k0 : k = 0
      · have D1 : decide ((0 : Int) < (k : Int)) = false := decide_eq_false (by omega)
        have D2 : decide (0 < k) = false := decide_eq_false (by omega)
        rw [D1, D2]
        cases vP a <;> rfl
      · have D1 : decide ((0 : Int) < (k : Int)) = true := decide_eq_true (by omega)
        have D2 : decide (0 < k) = true := decide_eq_true (by omega)
        rw [D1, D2, prev_get (d := ⟨0, 0, 0⟩) hk (by omega) hl]
        simp only [obind_sm]
        cases vP a <;> cases decide (a.t ≤ (l.getD (k - 1) ⟨0, 0, 0⟩).t) <;> rfl)
    (by
      unfold s0_spec_l02Stroke
      simp only [hL, Int.lt_irrefl, decide_false, cond_false])
  have d1 : within ((l.length : Nat) : Int) 1 60 = (decide (1 ≤ l.length) && decide (l.length ≤ 60)) := by
    unfold within
    congr 1 <;> exact decide_eq_decide.2 (by omega)
  unfold t_spec_l02Stroke vS
  rw [lp]
  cases firstL (fV l) l 0 with
  | none =>
    simp only [obind_sm, hL, d1]
  | some r => rfl

theorem firstL_no {A R : Type} {f : Nat → A → Option R} : ∀ {l : List A} {k : Nat}, firstL f l k = none → ∀ i a, l[i]? = some a → f (k + i) a = none
  | [], _, _, i, a, ha => by simp at ha
  | b :: l, k, h, i, a, ha => by
    unfold firstL at h
    cases e : f k b with
    | some r => rw [e] at h; cases h
    | none =>
      rw [e] at h
      cases i with
      | zero =>
        simp only [List.getElem?_cons_zero, Option.some.injEq] at ha
        subst ha
        exact e
      | succ i =>
        have := firstL_no h i a (by simpa using ha)
        rw [← this]
        congr 1
        omega

theorem firstL_so {A R : Type} {f : Nat → A → Option R} : ∀ {l : List A} {k : Nat} {r : R}, firstL f l k = some r → ∃ i a, f i a = some r
  | [], _, _, h => by cases h
  | b :: l, k, r, h => by
    unfold firstL at h
    cases e : f k b with
    | some r' => rw [e] at h; cases h; exact ⟨k, b, e⟩
    | none => rw [e] at h; exact firstL_so h

theorem vS_iff {l : List Point} : vS l = true ↔ StV l := by
  unfold vS
  constructor
  · intro h
    cases e : firstL (fV l) l 0 with
    | some r =>
      rw [e] at h
      simp only at h
      subst h
      obtain ⟨i, a, hf⟩ := firstL_so e
      unfold fV at hf
      cases h2 : (!vP a || (decide (0 < i) && decide (a.t ≤ (l.getD (i - 1) ⟨0, 0, 0⟩).t))) <;> rw [h2] at hf <;> cases hf
    | none =>
      rw [e] at h
      simp only [Bool.and_eq_true, decide_eq_true_eq] at h
      have no := firstL_no e
      have no' : ∀ i a, l[i]? = some a → vP a = true ∧ (0 < i → (l.getD (i - 1) ⟨0, 0, 0⟩).t < a.t) := fun i a ha => by
        have h1 := no i a ha
        rw [Nat.zero_add] at h1
        unfold fV at h1
        cases h2 : (!vP a || (decide (0 < i) && decide (a.t ≤ (l.getD (i - 1) ⟨0, 0, 0⟩).t))) with
        | true => rw [h2] at h1; cases h1
        | false =>
          simp only [Bool.or_eq_false_iff, Bool.not_eq_false', Bool.and_eq_false_iff, decide_eq_false_iff_not] at h2
          exact ⟨h2.1, fun h3 => by rcases h2.2 with h4 | h4 <;> omega⟩
      refine ⟨fun p hp => ?_, fun k p q h1 h2 => ?_, h.1, h.2⟩
      · obtain ⟨i, hi⟩ := List.mem_iff_getElem?.1 hp
        exact vP_iff.1 (no' i p hi).1
      · have h3 := (no' (k + 1) q h2).2 (by omega)
        rw [Nat.add_sub_cancel, List.getD_eq_getElem?_getD, h1] at h3
        exact h3
  · intro h
    have e : firstL (fV l) l 0 = none := firstL_none fun i a ha => by
      rw [Nat.zero_add]
      unfold fV
      have h1 := vP_iff.2 (h.pts a (List.mem_of_getElem? ha))
      have h2 : (decide (0 < i) && decide (a.t ≤ (l.getD (i - 1) ⟨0, 0, 0⟩).t)) = false := by
        by_cases c : 0 < i
        · obtain ⟨p, hp⟩ : ∃ p, l[i - 1]? = some p := ⟨l[i - 1]'(by have := get_lt ha; omega), List.getElem?_eq_getElem _⟩
          have h3 := h.inc (i - 1) p a hp (by rw [Nat.sub_add_cancel c]; exact ha)
          rw [List.getD_eq_getElem?_getD, hp]
          have : ¬ a.t ≤ p.t := by omega
          simp [this]
        · simp [c]
      rw [h1, h2]
      rfl
    rw [e]
    have h1 := h.n1
    have h2 := h.n2
    simp [h1, h2]

theorem StB.le {s : Stroke} (h : StB s) : (s.points.getD []).length ≤ 4294967296 := Nat.le_trans h.n (by omega)

def pt (l : List Point) (i : Nat) : Point := l.getD i ⟨0, 0, 0⟩

theorem get_pt {l : List Point} {i : Nat} (h : i < l.length) : getI l ((i : Nat) : Int) = some (pt l i) := by
  apply getI_nat
  unfold pt
  rw [List.getD_eq_getElem?_getD, List.getElem?_eq_getElem h]
  rfl

/-- One pair lies ahead of another. -/
def Pre (p q i j : Nat) : Prop := (i = p + 1 ∧ j = q + 1) ∨ (i = p + 1 ∧ j = q) ∨ (i = p ∧ j = q + 1)

/-- A path's cost, from the first pair on. -/
inductive Pth (C : Nat → Nat → Int) (R : Nat → Nat → Prop) : Nat → Nat → Int → Prop
  | start : R 0 0 → Pth C R 0 0 (C 0 0)
  | step {p q i j : Nat} {c : Int} : Pth C R p q c → Pre p q i j → R i j → Pth C R i j (c + C i j)

/-- The least cost of the paths to a pair, `B` where there is none. -/
def Opt (B : Int) (C : Nat → Nat → Int) (R : Nat → Nat → Prop) (i j : Nat) (v : Int) : Prop :=
  (v = B ∧ ∀ c, ¬ Pth C R i j c) ∨ (v < B ∧ Pth C R i j v ∧ ∀ c, Pth C R i j c → v ≤ c)

theorem Opt.le {B : Int} {C : Nat → Nat → Int} {R : Nat → Nat → Prop} {i j : Nat} {v : Int} (h : Opt B C R i j v) : v ≤ B := by
  rcases h with ⟨h, _⟩ | ⟨h, _⟩ <;> omega

theorem Pth.mono {C D : Nat → Nat → Int} {R S : Nat → Nat → Prop} {i j : Nat} {c : Int} (h : Pth C R i j c) (hR : ∀ p q, p ≤ i → q ≤ j → R p q → S p q) (hC : ∀ p q, p ≤ i → q ≤ j → C p q = D p q) : Pth D S i j c := by
  induction h with
  | start h =>
    rw [hC 0 0 (Nat.le_refl _) (Nat.le_refl _)]
    exact .start (hR 0 0 (Nat.le_refl _) (Nat.le_refl _) h)
  | @step p q i j c h1 h2 h3 ih =>
    have hle : p ≤ i ∧ q ≤ j := by rcases h2 with h | h | h <;> omega
    rw [hC i j (Nat.le_refl _) (Nat.le_refl _)]
    exact .step (ih (fun a b h4 h5 => hR a b (by omega) (by omega)) (fun a b h4 h5 => hC a b (by omega) (by omega))) h2 (hR i j (Nat.le_refl _) (Nat.le_refl _) h3)

def fAt (l : List Feat) (i : Nat) : Feat := l.getD i ⟨0, 0, 0⟩

def siz (x : Int) : Int := if x < 0 then -x else x

def fcost (a b : Feat) : Int := siz (a.x - b.x) + siz (a.y - b.y) + 16 * min (siz (a.d - b.d)) (8 - siz (a.d - b.d))

/-- A table's entry. -/
def Val (T : List (Sl Int)) (p q : Nat) (v : Int) : Prop := ∃ row, T[p]? = some (some row) ∧ row[q]? = some v

abbrev far : Int := 1099511627776

abbrev elC (a b : List Feat) : Nat → Nat → Int := fun i j => fcost (fAt a i) (fAt b j)

abbrev elR (band : Int) : Nat → Nat → Prop := fun i j => siz ((i : Int) - (j : Int)) ≤ band

/-- The table's rows ahead of `i`, and `j` entries of row `i`, are the least costs. -/
structure Tbl (a b : List Feat) (band : Int) (i j : Nat) (T : List (Sl Int)) : Prop where
  len : T.length = a.length
  val : ∀ p q, q < b.length → (p < i ∨ p = i ∧ q < j) → ∃ v, Val T p q v ∧ Opt far (elC a b) (elR band) p q v

theorem Val.set {T : List (Sl Int)} {i j p q : Nat} {row : List Int} {v w : Int} (hr : T[i]? = some (some row)) (hj : j < row.length) :
    Val (T.set i (some (row.set j w))) p q v ↔ (p = i ∧ q = j ∧ v = w) ∨ (¬ (p = i ∧ q = j) ∧ Val T p q v) := by
  have hi := get_lt hr
  unfold Val
  constructor
  · rintro ⟨r, h1, h2⟩
    by_cases c : i = p
    · subst c
      rw [List.getElem?_set_self hi] at h1
      cases h1
      by_cases d : j = q
      · subst d
        rw [List.getElem?_set_self hj] at h2
        cases h2
        exact .inl ⟨rfl, rfl, rfl⟩
      · rw [List.getElem?_set_ne d] at h2
        exact .inr ⟨fun h => d h.2.symm, row, hr, h2⟩
    · rw [List.getElem?_set_ne c] at h1
      exact .inr ⟨fun h => c h.1.symm, r, h1, h2⟩
  · rintro (⟨rfl, rfl, rfl⟩ | ⟨hne, r, h1, h2⟩)
    · exact ⟨_, List.getElem?_set_self hi, List.getElem?_set_self hj⟩
    · by_cases c : i = p
      · subst c
        rw [hr] at h1
        cases h1
        have d : j ≠ q := fun h => hne ⟨rfl, h.symm⟩
        exact ⟨_, List.getElem?_set_self hi, by rw [List.getElem?_set_ne d]; exact h2⟩
      · exact ⟨r, by rw [List.getElem?_set_ne c]; exact h1, h2⟩

theorem Tbl.step {a b : List Feat} {band : Int} {i j : Nat} {T : List (Sl Int)} {row : List Int} {v : Int} (h : Tbl a b band i j T) (hr : T[i]? = some (some row)) (hj : j < row.length) (ho : Opt far (elC a b) (elR band) i j v) : Tbl a b band i (j + 1) (T.set i (some (row.set j v))) := by
  refine ⟨by simp [h.len], fun p q hq hpq => ?_⟩
  by_cases e : p = i ∧ q = j
  · obtain ⟨rfl, rfl⟩ := e
    exact ⟨v, (Val.set hr hj).2 (.inl ⟨rfl, rfl, rfl⟩), ho⟩
  · obtain ⟨w, h1, h2⟩ := h.val p q hq (by omega)
    exact ⟨w, (Val.set hr hj).2 (.inr ⟨e, h1⟩), h2⟩

/-- A path through rows from the first one on, from any column `f`. -/
def PF (C : Nat → Nat → Int) (f i j : Nat) (c : Int) : Prop := f ≤ j ∧ Pth (fun p q => C p (q + f)) (fun _ _ => True) i (j - f) c

theorem PF.start {C : Nat → Nat → Int} (j : Nat) : PF C j 0 j (C 0 j) := by
  refine ⟨Nat.le_refl _, ?_⟩
  have h := Pth.start (C := fun p q => C p (q + j)) (R := fun _ _ => True) trivial
  simp only [Nat.zero_add] at h
  rw [Nat.sub_self]
  exact h

theorem PF.step {C : Nat → Nat → Int} {f p q i j : Nat} {c : Int} (h : PF C f p q c) (hp : Pre p q i j) : PF C f i j (c + C i j) := by
  obtain ⟨h1, h2⟩ := h
  have hj : q ≤ j := by unfold Pre at hp; omega
  refine ⟨by omega, ?_⟩
  have h3 : Pth (fun p q => C p (q + f)) (fun _ _ => True) i (j - f) (c + C i (j - f + f)) := Pth.step (i := i) (j := j - f) h2 (by unfold Pre at *; omega) trivial
  rw [Nat.sub_add_cancel (by omega)] at h3
  exact h3

/-- The least of the paths to a pair, and where it begins. -/
def PO (C : Nat → Nat → Int) (i j : Nat) (x : Part) : Prop := ∃ f : Nat, x.frm = (f : Int) ∧ PF C f i j x.cost ∧ ∀ g c, PF C g i j c → x.cost ≤ c

def PVal (T : List (Sl Part)) (p q : Nat) (v : Part) : Prop := ∃ row, T[p]? = some (some row) ∧ row[q]? = some v

theorem PVal.set {T : List (Sl Part)} {i j p q : Nat} {row : List Part} {v w : Part} (hr : T[i]? = some (some row)) (hj : j < row.length) :
    PVal (T.set i (some (row.set j w))) p q v ↔ (p = i ∧ q = j ∧ v = w) ∨ (¬ (p = i ∧ q = j) ∧ PVal T p q v) := by
  have hi := get_lt hr
  unfold PVal
  constructor
  · rintro ⟨r, h1, h2⟩
    by_cases c : i = p
    · subst c
      rw [List.getElem?_set_self hi] at h1
      cases h1
      by_cases d : j = q
      · subst d
        rw [List.getElem?_set_self hj] at h2
        cases h2
        exact .inl ⟨rfl, rfl, rfl⟩
      · rw [List.getElem?_set_ne d] at h2
        exact .inr ⟨fun h => d h.2.symm, row, hr, h2⟩
    · rw [List.getElem?_set_ne c] at h1
      exact .inr ⟨fun h => c h.1.symm, r, h1, h2⟩
  · rintro (⟨rfl, rfl, rfl⟩ | ⟨hne, r, h1, h2⟩)
    · exact ⟨_, List.getElem?_set_self hi, List.getElem?_set_self hj⟩
    · by_cases c : i = p
      · subst c
        rw [hr] at h1
        cases h1
        have d : j ≠ q := fun h => hne ⟨rfl, h.symm⟩
        exact ⟨_, List.getElem?_set_self hi, by rw [List.getElem?_set_ne d]; exact h2⟩
      · exact ⟨r, by rw [List.getElem?_set_ne c]; exact h1, h2⟩

/-- The entries ahead of a place are the least parts. -/
structure PTbl (a b : List Feat) (i j : Nat) (T : List (Sl Part)) : Prop where
  len : T.length = a.length
  rows : ∀ (k : Nat) (row : List Part), T[k]? = some (some row) → row.length = b.length
  val : ∀ p q, q < b.length → (p < i ∨ p = i ∧ q < j) → ∃ v, PVal T p q v ∧ PO (elC a b) p q v

theorem rows_set {m : Nat} {T : List (Sl Part)} {i : Nat} {r : List Part} (h : ∀ (k : Nat) (row : List Part), T[k]? = some (some row) → row.length = m) (hr : r.length = m) : ∀ (k : Nat) (row : List Part), (T.set i (some r))[k]? = some (some row) → row.length = m := by
  intro k row hk
  by_cases c : i = k
  · subst c
    have hlt := get_lt hk
    rw [List.length_set] at hlt
    rw [List.getElem?_set_self hlt] at hk
    cases hk
    exact hr
  · rw [List.getElem?_set_ne c] at hk
    exact h k row hk

theorem PTbl.step {a b : List Feat} {i j : Nat} {T : List (Sl Part)} {row : List Part} {v : Part} (h : PTbl a b i j T) (hr : T[i]? = some (some row)) (hj : j < b.length) (ho : PO (elC a b) i j v) : PTbl a b i (j + 1) (T.set i (some (row.set j v))) := by
  have hl := h.rows _ _ hr
  refine ⟨by rw [List.length_set, h.len], rows_set h.rows (by rw [List.length_set, hl]), fun p q hq hpq => ?_⟩
  by_cases e : p = i ∧ q = j
  · obtain ⟨rfl, rfl⟩ := e
    exact ⟨v, (PVal.set hr (by omega)).2 (.inl ⟨rfl, rfl, rfl⟩), ho⟩
  · obtain ⟨w, h1, h2⟩ := h.val p q hq (by omega)
    exact ⟨w, (PVal.set hr (by omega)).2 (.inr ⟨e, h1⟩), h2⟩

end Go.Proofs.Ytdikndbpcceogaa
