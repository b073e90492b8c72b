/-
  Functions that the law FnAreas reaches: their walks and contracts, part 2.
-/
import Derived.Test.YtdikndbpcceogaaFnAreasPartA
namespace Go.Proofs.Ytdikndbpcceogaa
open Go Go.Eng Go.Eng.Cod
set_option maxRecDepth 100000
set_option linter.unusedVariables false
set_option linter.unusedSimpArgs false

theorem tl0_spec_l02Stroke (env : Nat → Contract) {B : Base} (he_spec_l00In : env n_spec_l00In = .pure (T3 within)) (he_spec_l02Point : env n_spec_l02Point = .pure (C1 (fun c : Bool => enc c) t_spec_l02Point)) (s_ : Stroke) (s_p : Pt Stroke) (hp_s_ : s_p.get = some s_)  {st : Int} {tm : TM} {h : Heap} (R : (fun (st : Int) tm h1 => match st with | w3 => tm = [AV.fptr (Row.w Stroke) (s_p.tab.map Row.cells) s_p.i 0, und, AV.top, iv w3, AV.top, AV.top, AV.top, AV.top, AV.top, AV.top, AV.top, AV.top, AV.top, AV.top, AV.top, AV.top, AV.top, AV.top, AV.top, AV.top, AV.top, AV.top, AV.top, AV.top, AV.top, AV.top, AV.top, AV.top, AV.top, AV.top, AV.top, AV.top, AV.top, AV.top, AV.top, AV.top, AV.top, AV.top, AV.top, AV.top, AV.top, AV.top, AV.top, AV.top, AV.top, AV.top, und, und, und, und, und, und] ∧ Hold B h1 []) st tm h) : Sim (loopP hm0_spec_l02Stroke xm0_spec_l02Stroke (lb0_spec_l02Stroke env) tm h) (loopT (s0_spec_l02Stroke s_) st) (fun (q : Sum Unit Bool) (r : Res) => match q with | .inl _ => ∃ (q7 : Int) (z6 : AV) (h4 : Heap), r = (.exit 0, [AV.fptr (Row.w Stroke) (s_p.tab.map Row.cells) s_p.i 0, und, z6, iv q7, AV.top, AV.top, AV.top, AV.top, AV.top, AV.top, AV.top, AV.top, AV.top, AV.top, AV.top, AV.top, AV.top, AV.top, AV.top, AV.top, AV.top, AV.top, AV.top, AV.top, AV.top, AV.top, AV.top, AV.top, AV.top, AV.top, AV.top, AV.top, AV.top, AV.top, AV.top, AV.top, AV.top, AV.top, AV.top, AV.top, AV.top, AV.top, AV.top, AV.top, AV.top, AV.top, und, und, und, und, und, und], h4) ∧ Hold B h4 [] | .inr q11 => ∃ (q12 : Int) (h9 : Heap), r = (.ret, [AV.fptr (Row.w Stroke) (s_p.tab.map Row.cells) s_p.i 0, und, bv q11, iv q12, AV.top, AV.top, AV.top, AV.top, AV.top, AV.top, AV.top, AV.top, AV.top, AV.top, AV.top, AV.top, AV.top, AV.top, AV.top, AV.top, AV.top, AV.top, AV.top, AV.top, AV.top, AV.top, AV.top, AV.top, AV.top, AV.top, AV.top, AV.top, AV.top, AV.top, AV.top, AV.top, AV.top, AV.top, AV.top, AV.top, AV.top, AV.top, AV.top, AV.top, AV.top, AV.top, und, und, und, und, und, und], h9) ∧ Hold B h9 []) := by
  refine loop_sim (Rel := fun (st : Int) tm h1 => match st with | w3 => tm = [AV.fptr (Row.w Stroke) (s_p.tab.map Row.cells) s_p.i 0, und, AV.top, iv w3, AV.top, AV.top, AV.top, AV.top, AV.top, AV.top, AV.top, AV.top, AV.top, AV.top, AV.top, AV.top, AV.top, AV.top, AV.top, AV.top, AV.top, AV.top, AV.top, AV.top, AV.top, AV.top, AV.top, AV.top, AV.top, AV.top, AV.top, AV.top, AV.top, AV.top, AV.top, AV.top, AV.top, AV.top, AV.top, AV.top, AV.top, AV.top, AV.top, AV.top, AV.top, AV.top, und, und, und, und, und, und] ∧ Hold B h1 []) (fun w3 tm h1 R => ?_) R
  obtain ⟨rfl, O2⟩ := R
  rw [e_lb0_spec_l02Stroke]
  unfold s0_spec_l02Stroke
  dsimp only
  refine sim_let (v := AV.fptr (Row.w Stroke) (s_p.tab.map Row.cells) s_p.i 0) rfl ?_
  refine sim_let (v := AV.fptr (Row.w Stroke) (s_p.tab.map Row.cells) s_p.i 0) rfl ?_
  refine sim_let (v := Sl.enc s_.points) (ld_pt hp_s_ false 1 0) ?_
  refine sim_let (v := iv (((s_.points.getD []).length : Nat) : Int)) (Tab.enc h1 s_.points).len ?_
  refine sim_let (v := bv (decide (w3 < (((s_.points.getD []).length : Nat) : Int)))) (aBin_lss _ _) ?_
  refine sim_cond (fun c13 => ?_) (fun c13 => ?_)
  · refine sim_let (v := AV.fptr (Row.w Stroke) (s_p.tab.map Row.cells) s_p.i 0) rfl ?_
    refine sim_let (v := AV.fptr (Row.w Stroke) (s_p.tab.map Row.cells) s_p.i 0) rfl ?_
    refine sim_let (v := Sl.enc s_.points) (ld_pt hp_s_ false 1 0) ?_
    refine sim_get (Tab.enc h1 s_.points) (fun m15 a14 hi16 hm17 => ?_)
    refine sim_let (v := AV.agg [iv a14.x, iv a14.y, iv a14.t]) ((Tab.enc h1 s_.points).ld hm17 true 3 0) ?_
    refine sim_callQ1 he_spec_l02Point (snapD_nr _ a14 rfl) (fun c18 => ?_)
    refine sim_let2 (hand_plain (by rfl) _ _) ?_
    refine sim_let (v := bv (!c18)) (aUn_not _) ?_
    refine sim_g3F (e := bv) (fun hb19 => ?_) (fun y21 y22 c20 => ?_)
    · refine sim_o0 ?_
      refine sim_o1 ?_
      refine sim_let (v := bv (decide (0 < w3))) (aBin_gtr _ _) ?_
      refine sim_o0 ?_
      exact sim_ret rfl
    · simp only [gv_FT]
      refine sim_g18T (e := bv) (fun hb23 => ?_) (fun y33 y34 y35 y36 y37 y38 y39 y40 y41 y42 y43 y44 y45 y46 y47 y48 y49 c32 => ?_)
      · refine sim_o0 ?_
        refine sim_o1 ?_
        refine sim_let (v := AV.fptr (Row.w Stroke) (s_p.tab.map Row.cells) s_p.i 0) rfl ?_
        refine sim_o0 ?_
        refine sim_o1 ?_
        refine sim_let (v := AV.fptr (Row.w Stroke) (s_p.tab.map Row.cells) s_p.i 0) rfl ?_
        refine sim_o0 ?_
        refine sim_o1 ?_
        refine sim_let (v := Sl.enc s_.points) (ld_pt hp_s_ false 1 0) ?_
        refine sim_o0 ?_
        refine sim_o0 ?_
        refine sim_o1 ?_
        refine sim_get (Tab.enc h1 s_.points) (fun m25 a24 hi26 hm27 => ?_)
        refine sim_o0 ?_
        refine sim_o1 ?_
        refine sim_let (v := elp (Sl.enc s_.points) m25 2) ((Tab.enc h1 s_.points).fld _ _ _) ?_
        refine sim_o0 ?_
        refine sim_o1 ?_
        refine sim_let (v := iv a24.t) ((Tab.enc h1 s_.points).ld hm27 false 1 2) ?_
        refine sim_o0 ?_
        refine sim_o0 ?_
        refine sim_o1 ?_
        refine sim_let (v := AV.fptr (Row.w Stroke) (s_p.tab.map Row.cells) s_p.i 0) rfl ?_
        refine sim_o0 ?_
        refine sim_o1 ?_
        refine sim_let (v := AV.fptr (Row.w Stroke) (s_p.tab.map Row.cells) s_p.i 0) rfl ?_
        refine sim_o0 ?_
        refine sim_o1 ?_
        refine sim_let (v := Sl.enc s_.points) (ld_pt hp_s_ false 1 0) ?_
        refine sim_o0 ?_
        refine sim_o0 ?_
        refine sim_o1 ?_
        refine sim_let (v := iv (wr (w3 - 1))) (aBin_sub _ _) ?_
        refine sim_o0 ?_
        refine sim_o1 ?_
        refine sim_get (Tab.enc h1 s_.points) (fun m29 a28 hi30 hm31 => ?_)
        refine sim_o0 ?_
        refine sim_o1 ?_
        refine sim_let (v := elp (Sl.enc s_.points) m29 2) ((Tab.enc h1 s_.points).fld _ _ _) ?_
        refine sim_o0 ?_
        refine sim_o1 ?_
        refine sim_let (v := iv a28.t) ((Tab.enc h1 s_.points).ld hm31 false 1 2) ?_
        refine sim_o0 ?_
        refine sim_let (v := bv (decide (a24.t ≤ a28.t))) (aBin_leq _ _) ?_
        exact sim_ret rfl
      · refine sim_guardF (e := bv) (fun hb50 => ?_) (fun c51 => ?_)
        · simp only [hb50, cond_true, cond_false, Bool.not_true, Bool.not_false, Bool.true_and, Bool.and_true, Bool.false_and, Bool.not_not]
          refine sim_let (v := bv (bif c20 then c32 else false)) (pick_b _ _ _) ?_
          exact sim_ret rfl
        · refine sim_let (v := bv (bif !c18 then true else c51)) (pick_b' _ _ _) ?_
          refine sim_cond (fun c52 => ?_) (fun c52 => ?_)
          · exact sim_ret ⟨nofun, _, _, rfl, O2⟩
          · refine sim_let (v := iv (wr (w3 + 1))) (aBin_add _ _) ?_
            exact sim_ret ⟨rfl, rfl, O2⟩
  · exact sim_ret ⟨nofun, _, _, _, rfl, O2⟩
theorem ts_spec_l02Stroke (env : Nat → Contract) (he_spec_l00In : env n_spec_l00In = .pure (T3 within)) (he_spec_l02Point : env n_spec_l02Point = .pure (C1 (fun c : Bool => enc c) t_spec_l02Point)) (s_ : Stroke) {s_p : Pt Stroke} (hp_s_ : s_p.get = some s_) : Sim (denFn Try.prog env n_spec_l02Stroke [AV.fptr (Row.w Stroke) (s_p.tab.map Row.cells) s_p.i 0] []) (t_spec_l02Stroke s_) fun c p => release p.2 depth p.1 = some ((fun c : Bool => enc c) c) := by
  have O := Hold.nil []
  generalize hB : (⟨[], []⟩ : Base) = B at O
  clear hB
  rw [e_spec_l02Stroke]
  unfold t_spec_l02Stroke
  refine sim_bind ((tl0_spec_l02Stroke env he_spec_l00In he_spec_l02Point s_ s_p hp_s_) ⟨rfl, O⟩) (fun qq57 r hq => ?_)
  rcases qq57 with _ | q11
  · obtain ⟨q7, z6, h4, rfl, O5⟩ := hq
    rw [e_lk0x0_spec_l02Stroke]
    refine sim_let (v := AV.fptr (Row.w Stroke) (s_p.tab.map Row.cells) s_p.i 0) rfl ?_
    refine sim_let (v := AV.fptr (Row.w Stroke) (s_p.tab.map Row.cells) s_p.i 0) rfl ?_
    refine sim_let (v := Sl.enc s_.points) (ld_pt hp_s_ false 1 0) ?_
    refine sim_let (v := iv (((s_.points.getD []).length : Nat) : Int)) (Tab.enc h4 s_.points).len ?_
    refine sim_callV3 (t := within) he_spec_l00In (snapD_int _ _) (snapD_int _ _) (snapD_int _ _) (fun c8 => ?_)
    exact sim_ret (release_plain (by rfl) _)
  · obtain ⟨q12, h9, rfl, O10⟩ := hq
    rw [e_lk0r_spec_l02Stroke]
    exact sim_ret (release_plain (by rfl) _)
theorem tt_spec_l02Stroke : PureOK Try.prog n_spec_l02Stroke (C1 (fun c : Bool => enc c) tp_spec_l02Stroke) := pureC1 (Econs ok_spec_l00In (Econs tt_spec_l02Point E0)) mixed hb_spec_l02Stroke fun s_p => sim_getP fun s_ hp_s_ => ts_spec_l02Stroke _ (by simp [envL]) (by simp [envL]) s_ hp_s_

def t_impl_squared (a_ : Point) (b_ : Point) : Option Int :=
  some (wr ((wr ((wr (a_.x - b_.x)) * (wr (a_.x - b_.x)))) + (wr ((wr (a_.y - b_.y)) * (wr (a_.y - b_.y))))))

theorem ts_impl_squared (env : Nat → Contract)  (a_ : Point) (b_ : Point) : Sim (denFn Try.prog env n_impl_squared [AV.agg [iv a_.x, iv a_.y, iv a_.t], AV.agg [iv b_.x, iv b_.y, iv b_.t]] []) (t_impl_squared a_ b_) fun c p => release p.2 depth p.1 = some ((fun c : Int => enc c) c) := by
  have O := Hold.nil []
  generalize hB : (⟨[], []⟩ : Base) = B at O
  clear hB
  rw [e_impl_squared]
  unfold t_impl_squared
  refine sim_box O (cs := [iv a_.x, iv a_.y, iv a_.t]) (by first | rfl | simp) (fun o1 h2 O3 => ?_)
  replace O3 : Hold B h2 [(AV.ptr o1 1 0 0, .pt 3 [iv a_.x, iv a_.y, iv a_.t])] := O3
  refine sim_box O3 (cs := [iv b_.x, iv b_.y, iv b_.t]) (by first | rfl | simp) (fun o5 h6 O7 => ?_)
  replace O7 : Hold B h6 [(AV.ptr o1 1 0 0, .pt 3 [iv a_.x, iv a_.y, iv a_.t]), (AV.ptr o5 1 0 0, .pt 3 [iv b_.x, iv b_.y, iv b_.t])] := O7
  refine sim_let (v := AV.ptr o1 1 0 0) rfl ?_
  refine sim_let (v := iv a_.x) (O7.ld 0 rfl false 1 0) ?_
  refine sim_let (v := AV.ptr o5 1 0 0) rfl ?_
  refine sim_let (v := iv b_.x) (O7.ld 1 rfl false 1 0) ?_
  refine sim_let (v := iv (wr (a_.x - b_.x))) (aBin_sub _ _) ?_
  refine sim_let (v := AV.ptr o1 1 0 0) rfl ?_
  refine sim_let (v := iv a_.x) (O7.ld 0 rfl false 1 0) ?_
  refine sim_let (v := AV.ptr o5 1 0 0) rfl ?_
  refine sim_let (v := iv b_.x) (O7.ld 1 rfl false 1 0) ?_
  refine sim_let (v := iv (wr (a_.x - b_.x))) (aBin_sub _ _) ?_
  refine sim_let (v := iv (wr ((wr (a_.x - b_.x)) * (wr (a_.x - b_.x))))) (aBin_mul _ _) ?_
  refine sim_let (v := AV.ptr o1 1 0 1) rfl ?_
  refine sim_let (v := iv a_.y) (O7.ld 0 rfl false 1 1) ?_
  refine sim_let (v := AV.ptr o5 1 0 1) rfl ?_
  refine sim_let (v := iv b_.y) (O7.ld 1 rfl false 1 1) ?_
  refine sim_let (v := iv (wr (a_.y - b_.y))) (aBin_sub _ _) ?_
  refine sim_let (v := AV.ptr o1 1 0 1) rfl ?_
  refine sim_let (v := iv a_.y) (O7.ld 0 rfl false 1 1) ?_
  refine sim_let (v := AV.ptr o5 1 0 1) rfl ?_
  refine sim_let (v := iv b_.y) (O7.ld 1 rfl false 1 1) ?_
  refine sim_let (v := iv (wr (a_.y - b_.y))) (aBin_sub _ _) ?_
  refine sim_let (v := iv (wr ((wr (a_.y - b_.y)) * (wr (a_.y - b_.y))))) (aBin_mul _ _) ?_
  refine sim_let (v := iv (wr ((wr ((wr (a_.x - b_.x)) * (wr (a_.x - b_.x)))) + (wr ((wr (a_.y - b_.y)) * (wr (a_.y - b_.y))))))) (aBin_add _ _) ?_
  exact sim_ret (release_plain (by rfl) _)
theorem tt_impl_squared : PureOK Try.prog n_impl_squared (C2 (fun c : Int => enc c) t_impl_squared) := pureC2 E0 mixed hb_impl_squared fun a_ b_ => ts_impl_squared _  a_ b_

def t_impl_lengthOf (a_ : Point) (b_ : Point) : Option Int :=
  obind (t_impl_squared a_ b_) fun c9 =>
  obind (t_impl_rootOf (wr (256 * c9))) fun c10 =>
  some c10

theorem ts_impl_lengthOf (env : Nat → Contract) (he_impl_rootOf : env n_impl_rootOf = .pure (C1 (fun c : Int => enc c) t_impl_rootOf)) (he_impl_squared : env n_impl_squared = .pure (C2 (fun c : Int => enc c) t_impl_squared)) (a_ : Point) (b_ : Point) : Sim (denFn Try.prog env n_impl_lengthOf [AV.agg [iv a_.x, iv a_.y, iv a_.t], AV.agg [iv b_.x, iv b_.y, iv b_.t]] []) (t_impl_lengthOf a_ b_) fun c p => release p.2 depth p.1 = some ((fun c : Int => enc c) c) := by
  have O := Hold.nil []
  generalize hB : (⟨[], []⟩ : Base) = B at O
  clear hB
  rw [e_impl_lengthOf]
  unfold t_impl_lengthOf
  refine sim_box O (cs := [iv a_.x, iv a_.y, iv a_.t]) (by first | rfl | simp) (fun o1 h2 O3 => ?_)
  replace O3 : Hold B h2 [(AV.ptr o1 1 0 0, .pt 3 [iv a_.x, iv a_.y, iv a_.t])] := O3
  refine sim_box O3 (cs := [iv b_.x, iv b_.y, iv b_.t]) (by first | rfl | simp) (fun o5 h6 O7 => ?_)
  replace O7 : Hold B h6 [(AV.ptr o1 1 0 0, .pt 3 [iv a_.x, iv a_.y, iv a_.t]), (AV.ptr o5 1 0 0, .pt 3 [iv b_.x, iv b_.y, iv b_.t])] := O7
  refine sim_let (v := AV.agg [iv a_.x, iv a_.y, iv a_.t]) (O7.ld 0 rfl true 3 0) ?_
  refine sim_let (v := AV.agg [iv b_.x, iv b_.y, iv b_.t]) (O7.ld 1 rfl true 3 0) ?_
  refine sim_call2 he_impl_squared (snapD_nr _ a_ rfl) (snapD_nr _ b_ rfl) (fun c9 => ?_)
  refine sim_let2 (hand_plain (by rfl) _ _) ?_
  refine sim_let (v := iv (wr (256 * c9))) (aBin_mul _ _) ?_
  refine sim_call1 he_impl_rootOf (snapD_int _ _) (fun c10 => ?_)
  refine sim_let2 (hand_plain (by rfl) _ _) ?_
  exact sim_ret (release_plain (by rfl) _)
theorem tt_impl_lengthOf : PureOK Try.prog n_impl_lengthOf (C2 (fun c : Int => enc c) t_impl_lengthOf) := pureC2 (Econs tt_impl_rootOf (Econs tt_impl_squared E0)) mixed hb_impl_lengthOf fun a_ b_ => ts_impl_lengthOf _ (by simp [envL]) (by simp [envL]) a_ b_

def t_spec_l05Far (a_ : Point) (b_ : Point) : Option Int :=
  some (wr ((wr ((wr (a_.x - b_.x)) * (wr (a_.x - b_.x)))) + (wr ((wr (a_.y - b_.y)) * (wr (a_.y - b_.y))))))

theorem ts_spec_l05Far (env : Nat → Contract)  (a_ : Point) (b_ : Point) : Sim (denFn Try.prog env n_spec_l05Far [AV.agg [iv a_.x, iv a_.y, iv a_.t], AV.agg [iv b_.x, iv b_.y, iv b_.t]] []) (t_spec_l05Far a_ b_) fun c p => release p.2 depth p.1 = some ((fun c : Int => enc c) c) := by
  have O := Hold.nil []
  generalize hB : (⟨[], []⟩ : Base) = B at O
  clear hB
  rw [e_spec_l05Far]
  unfold t_spec_l05Far
  refine sim_box O (cs := [iv a_.x, iv a_.y, iv a_.t]) (by first | rfl | simp) (fun o1 h2 O3 => ?_)
  replace O3 : Hold B h2 [(AV.ptr o1 1 0 0, .pt 3 [iv a_.x, iv a_.y, iv a_.t])] := O3
  refine sim_box O3 (cs := [iv b_.x, iv b_.y, iv b_.t]) (by first | rfl | simp) (fun o5 h6 O7 => ?_)
  replace O7 : Hold B h6 [(AV.ptr o1 1 0 0, .pt 3 [iv a_.x, iv a_.y, iv a_.t]), (AV.ptr o5 1 0 0, .pt 3 [iv b_.x, iv b_.y, iv b_.t])] := O7
  refine sim_let (v := AV.ptr o1 1 0 0) rfl ?_
  refine sim_let (v := iv a_.x) (O7.ld 0 rfl false 1 0) ?_
  refine sim_let (v := AV.ptr o5 1 0 0) rfl ?_
  refine sim_let (v := iv b_.x) (O7.ld 1 rfl false 1 0) ?_
  refine sim_let (v := iv (wr (a_.x - b_.x))) (aBin_sub _ _) ?_
  refine sim_let (v := AV.ptr o1 1 0 1) rfl ?_
  refine sim_let (v := iv a_.y) (O7.ld 0 rfl false 1 1) ?_
  refine sim_let (v := AV.ptr o5 1 0 1) rfl ?_
  refine sim_let (v := iv b_.y) (O7.ld 1 rfl false 1 1) ?_
  refine sim_let (v := iv (wr (a_.y - b_.y))) (aBin_sub _ _) ?_
  refine sim_let (v := iv (wr ((wr (a_.x - b_.x)) * (wr (a_.x - b_.x))))) (aBin_mul _ _) ?_
  refine sim_let (v := iv (wr ((wr (a_.y - b_.y)) * (wr (a_.y - b_.y))))) (aBin_mul _ _) ?_
  refine sim_let (v := iv (wr ((wr ((wr (a_.x - b_.x)) * (wr (a_.x - b_.x)))) + (wr ((wr (a_.y - b_.y)) * (wr (a_.y - b_.y))))))) (aBin_add _ _) ?_
  exact sim_ret (release_plain (by rfl) _)
theorem tt_spec_l05Far : PureOK Try.prog n_spec_l05Far (C2 (fun c : Int => enc c) t_spec_l05Far) := pureC2 E0 mixed hb_spec_l05Far fun a_ b_ => ts_spec_l05Far _  a_ b_

def t_spec_l05Length (a_ : Point) (b_ : Point) : Option Int :=
  obind (t_spec_l05Far a_ b_) fun c9 =>
  obind (t_spec_l05Root (wr (256 * c9))) fun c10 =>
  some c10

def s0_impl_arcsOf (s_ : Stroke) : ((Sl Int) × Int) → Option (Sum ((Sl Int) × Int) (Sl Int)) := fun (w10, w13) =>
  bif decide (w13 < (((s_.points.getD []).length : Nat) : Int)) then
    obind (getI (w10.getD []) (wr (w13 - 1))) fun a20 =>
    obind (getI (s_.points.getD []) (wr (w13 - 1))) fun a24 =>
    obind (getI (s_.points.getD []) w13) fun a28 =>
    obind (t_impl_lengthOf a24 a28) fun c32 =>
    obind (appO w10 ([wr (a20 + c32)] : List Int)) fun _ =>
    some (.inl ((appS w10 ([wr (a20 + c32)] : List Int)), wr (w13 + 1)))
  else
    some (.inr w10)
def t_impl_arcsOf (s_ : Stroke) : Option (Sl Int) :=
  obind (loopT (s0_impl_arcsOf s_) ((some ([0] : List Int)), 1)) fun q17 =>
  some q17

theorem tl0_impl_arcsOf (env : Nat → Contract) {B : Base} (he_impl_lengthOf : env n_impl_lengthOf = .pure (C2 (fun c : Int => enc c) t_impl_lengthOf)) (s_ : Stroke) (o1 : Nat) (x5 : AV)  {st : (Sl Int) × Int} {tm : TM} {h : Heap} (R : (fun (st : (Sl Int) × Int) tm h11 => match st with | (w10, w13) => ∃ z9, tm = [AV.agg [Sl.enc s_.points], AV.ptr o1 1 0 0, nilS, z9, iv w13, x5, AV.top, AV.top, AV.top, AV.top, AV.top, AV.top, AV.top, AV.top, AV.top, AV.top, AV.top, AV.top, AV.top, AV.top, AV.top, AV.top, AV.top, AV.top, AV.top, AV.top, AV.top, AV.top, AV.top, AV.top, AV.top, AV.top, AV.top, AV.top, und] ∧ Hold B h11 [(AV.ptr o1 1 0 0, .pt 1 [Sl.enc s_.points]), (z9, obS (w10 : Sl Int))]) st tm h) : Sim (loopP hm0_impl_arcsOf xm0_impl_arcsOf (lb0_impl_arcsOf env) tm h) (loopT (s0_impl_arcsOf s_) st) (fun (q : Sl Int) (r : Res) => match q with | q17 => ∃ (q18 : Int) (z16 : AV) (h14 : Heap), r = (.exit 0, [AV.agg [Sl.enc s_.points], AV.ptr o1 1 0 0, nilS, z16, iv q18, x5, AV.top, AV.top, AV.top, AV.top, AV.top, AV.top, AV.top, AV.top, AV.top, AV.top, AV.top, AV.top, AV.top, AV.top, AV.top, AV.top, AV.top, AV.top, AV.top, AV.top, AV.top, AV.top, AV.top, AV.top, AV.top, AV.top, AV.top, AV.top, und], h14) ∧ Hold B h14 [(AV.ptr o1 1 0 0, .pt 1 [Sl.enc s_.points]), (z16, obS (q17 : Sl Int))]) := by
  refine loop_sim (Rel := fun (st : (Sl Int) × Int) tm h11 => match st with | (w10, w13) => ∃ z9, tm = [AV.agg [Sl.enc s_.points], AV.ptr o1 1 0 0, nilS, z9, iv w13, x5, AV.top, AV.top, AV.top, AV.top, AV.top, AV.top, AV.top, AV.top, AV.top, AV.top, AV.top, AV.top, AV.top, AV.top, AV.top, AV.top, AV.top, AV.top, AV.top, AV.top, AV.top, AV.top, AV.top, AV.top, AV.top, AV.top, AV.top, AV.top, und] ∧ Hold B h11 [(AV.ptr o1 1 0 0, .pt 1 [Sl.enc s_.points]), (z9, obS (w10 : Sl Int))]) (fun st tm h11 R => ?_) R
  obtain ⟨w10, w13⟩ := st
  obtain ⟨z9, rfl, O12⟩ := R
  rw [e_lb0_impl_arcsOf]
  unfold s0_impl_arcsOf
  dsimp only
  refine sim_let (v := AV.ptr o1 1 0 0) rfl ?_
  refine sim_let (v := Sl.enc s_.points) (O12.ld 0 rfl false 1 0) ?_
  refine sim_let (v := iv (((s_.points.getD []).length : Nat) : Int)) (Tab.enc h11 s_.points).len ?_
  refine sim_let (v := bv (decide (w13 < (((s_.points.getD []).length : Nat) : Int)))) (aBin_lss _ _) ?_
  refine sim_cond (fun c19 => ?_) (fun c19 => ?_)
  · refine sim_let (v := iv (wr (w13 - 1))) (aBin_sub _ _) ?_
    refine sim_get (O12.tab (A := Int) (s := w10) 1 rfl) (fun m21 a20 hi22 hm23 => ?_)
    refine sim_let (v := iv a20) ((O12.tab (A := Int) (s := w10) 1 rfl).ld hm23 false 1 0) ?_
    refine sim_let (v := AV.ptr o1 1 0 0) rfl ?_
    refine sim_let (v := Sl.enc s_.points) (O12.ld 0 rfl false 1 0) ?_
    refine sim_let (v := iv (wr (w13 - 1))) (aBin_sub _ _) ?_
    refine sim_get (Tab.enc h11 s_.points) (fun m25 a24 hi26 hm27 => ?_)
    refine sim_let (v := AV.agg [iv a24.x, iv a24.y, iv a24.t]) ((Tab.enc h11 s_.points).ld hm27 true 3 0) ?_
    refine sim_let (v := AV.ptr o1 1 0 0) rfl ?_
    refine sim_let (v := Sl.enc s_.points) (O12.ld 0 rfl false 1 0) ?_
    refine sim_get (Tab.enc h11 s_.points) (fun m29 a28 hi30 hm31 => ?_)
    refine sim_let (v := AV.agg [iv a28.x, iv a28.y, iv a28.t]) ((Tab.enc h11 s_.points).ld hm31 true 3 0) ?_
    refine sim_callQ2 he_impl_lengthOf (snapD_nr _ a24 rfl) (snapD_nr _ a28 rfl) (fun c32 => ?_)
    refine sim_let2 (hand_plain (by rfl) _ _) ?_
    refine sim_let (v := iv (wr (a20 + c32))) (aBin_add _ _) ?_
    refine sim_build (A := Int) O12 ([wr (a20 + c32)] : List Int) rfl (by first | rfl | simp [aFillRows, zrows]) rfl (fun x33 h34 O35 => ?_)
    replace O35 : Hold B h34 [(AV.ptr o1 1 0 0, .pt 1 [Sl.enc s_.points]), (z9, obS (w10 : Sl Int)), (x33, obS ((some ([wr (a20 + c32)] : List Int)) : Sl Int))] := O35
    refine sim_append (A := Int) (s := w10) O35 1 ([wr (a20 + c32)] : List Int) rfl (O35.src (A := Int) (s := (some ([wr (a20 + c32)] : List Int))) 2 rfl) (by decide) (fun x38 h39 O40 => ?_)
    replace O40 : Hold B h39 [(AV.ptr o1 1 0 0, .pt 1 [Sl.enc s_.points]), (x38, obS ((appS w10 ([wr (a20 + c32)] : List Int)) : Sl Int)), (x33, obS ((some ([wr (a20 + c32)] : List Int)) : Sl Int))] := O40
    have O42 : Hold B h39 [(AV.ptr o1 1 0 0, .pt 1 [Sl.enc s_.points]), (x38, obS ((appS w10 ([wr (a20 + c32)] : List Int)) : Sl Int))] := O40.sel [0, 1] (by decide) rfl
    refine sim_let (v := iv (wr (w13 + 1))) (aBin_add _ _) ?_
    exact sim_ret ⟨rfl, _, rfl, O42⟩
  · exact sim_ret ⟨nofun, _, _, _, rfl, O12⟩
theorem ts_impl_arcsOf (env : Nat → Contract) (he_impl_lengthOf : env n_impl_lengthOf = .pure (C2 (fun c : Int => enc c) t_impl_lengthOf)) (s_ : Stroke) : Sim (denFn Try.prog env n_impl_arcsOf [AV.agg [Sl.enc s_.points]] []) (t_impl_arcsOf s_) fun c p => release p.2 depth p.1 = some ((fun c : (Sl Int) => rS c) c) := by
  have O := Hold.nil []
  generalize hB : (⟨[], []⟩ : Base) = B at O
  clear hB
  rw [e_impl_arcsOf]
  unfold t_impl_arcsOf
  refine sim_box O (cs := [Sl.enc s_.points]) (by first | rfl | simp) (fun o1 h2 O3 => ?_)
  replace O3 : Hold B h2 [(AV.ptr o1 1 0 0, .pt 1 [Sl.enc s_.points])] := O3
  refine sim_build (A := Int) O3 ([0] : List Int) rfl (by first | rfl | simp [aFillRows, zrows]) rfl (fun x5 h6 O7 => ?_)
  replace O7 : Hold B h6 [(AV.ptr o1 1 0 0, .pt 1 [Sl.enc s_.points]), (x5, obS ((some ([0] : List Int)) : Sl Int))] := O7
  refine sim_bind ((tl0_impl_arcsOf env he_impl_lengthOf s_ o1 x5) ⟨_, rfl, O7⟩) (fun qq46 r hq => ?_)
  revert hq
  revert qq46
  intro q17 hq
  obtain ⟨q18, z16, h14, rfl, O15⟩ := hq
  rw [e_lk0x0_impl_arcsOf]
  exact sim_ret (O15.rel (A := Int) (s := q17) 1 rfl)
theorem tt_impl_arcsOf : PureOK Try.prog n_impl_arcsOf (C1 (fun c : (Sl Int) => rS c) t_impl_arcsOf) := pureC1 (Econs tt_impl_lengthOf E0) mixed hb_impl_arcsOf fun s_ => ts_impl_arcsOf _ (by simp [envL]) s_

def t_impl_strokeLength (s_ : Stroke) : Option Int :=
  obind (t_impl_arcsOf s_) fun c5 =>
  obind (getI (c5.getD []) (wr ((((c5.getD []).length : Nat) : Int) - 1))) fun a10 =>
  some a10

theorem ts_impl_strokeLength (env : Nat → Contract) (he_impl_arcsOf : env n_impl_arcsOf = .pure (C1 (fun c : (Sl Int) => rS c) t_impl_arcsOf)) (s_ : Stroke) : Sim (denFn Try.prog env n_impl_strokeLength [AV.agg [Sl.enc s_.points]] []) (t_impl_strokeLength s_) fun c p => release p.2 depth p.1 = some ((fun c : Int => enc c) c) := by
  have O := Hold.nil []
  generalize hB : (⟨[], []⟩ : Base) = B at O
  clear hB
  rw [e_impl_strokeLength]
  unfold t_impl_strokeLength
  refine sim_box O (cs := [Sl.enc s_.points]) (by first | rfl | simp) (fun o1 h2 O3 => ?_)
  replace O3 : Hold B h2 [(AV.ptr o1 1 0 0, .pt 1 [Sl.enc s_.points])] := O3
  refine sim_let (v := AV.agg [Sl.enc s_.points]) (O3.ld 0 rfl true 1 0) ?_
  refine sim_call1 he_impl_arcsOf (snapD_nr _ s_ rfl) (fun c5 => ?_)
  refine sim_hand (A := Int) O3 (fun x7 h8 O9 => ?_)
  replace O9 : Hold B h8 [(AV.ptr o1 1 0 0, .pt 1 [Sl.enc s_.points]), (x7, obS (c5 : Sl Int))] := O9
  refine sim_let (v := iv (((c5.getD []).length : Nat) : Int)) (O9.tab (A := Int) (s := c5) 1 rfl).len ?_
  refine sim_let (v := iv (wr ((((c5.getD []).length : Nat) : Int) - 1))) (aBin_sub _ _) ?_
  refine sim_get (O9.tab (A := Int) (s := c5) 1 rfl) (fun m11 a10 hi12 hm13 => ?_)
  refine sim_let (v := iv a10) ((O9.tab (A := Int) (s := c5) 1 rfl).ld hm13 false 1 0) ?_
  exact sim_ret (release_plain (by rfl) _)
theorem tt_impl_strokeLength : PureOK Try.prog n_impl_strokeLength (C1 (fun c : Int => enc c) t_impl_strokeLength) := pureC1 (Econs tt_impl_arcsOf E0) mixed hb_impl_strokeLength fun s_ => ts_impl_strokeLength _ (by simp [envL]) s_

def t_impl_StrokeLength (s_ : Stroke) : Option (Int × Int) :=
  obind (t_impl_ValidStroke s_) fun c5 =>
  bif !c5 then
    some (0, 1)
  else
    obind (t_impl_strokeLength s_) fun c7 =>
    some (c7, 0)

theorem ts_impl_StrokeLength (env : Nat → Contract) (he_impl_ValidStroke : env n_impl_ValidStroke = .pure (C1 (fun c : Bool => enc c) t_impl_ValidStroke)) (he_impl_strokeLength : env n_impl_strokeLength = .pure (C1 (fun c : Int => enc c) t_impl_strokeLength)) (s_ : Stroke) : Sim (denFn Try.prog env n_impl_StrokeLength [AV.agg [Sl.enc s_.points]] []) (t_impl_StrokeLength s_) fun c p => release p.2 depth p.1 = some ((fun c : Int × Int => AV.tup [enc c.1, enc c.2]) c) := by
  have O := Hold.nil []
  generalize hB : (⟨[], []⟩ : Base) = B at O
  clear hB
  rw [e_impl_StrokeLength]
  unfold t_impl_StrokeLength
  refine sim_box O (cs := [Sl.enc s_.points]) (by first | rfl | simp) (fun o1 h2 O3 => ?_)
  replace O3 : Hold B h2 [(AV.ptr o1 1 0 0, .pt 1 [Sl.enc s_.points])] := O3
  refine sim_let (v := AV.agg [Sl.enc s_.points]) (O3.ld 0 rfl true 1 0) ?_
  refine sim_call1 he_impl_ValidStroke (snapD_nr _ s_ rfl) (fun c5 => ?_)
  refine sim_let2 (hand_plain (by rfl) _ _) ?_
  refine sim_let (v := bv (!c5)) (aUn_not _) ?_
  refine sim_cond (fun c6 => ?_) (fun c6 => ?_)
  · exact sim_ret (release_plain (by rfl) _)
  · refine sim_let (v := AV.agg [Sl.enc s_.points]) (O3.ld 0 rfl true 1 0) ?_
    refine sim_call1 he_impl_strokeLength (snapD_nr _ s_ rfl) (fun c7 => ?_)
    refine sim_let2 (hand_plain (by rfl) _ _) ?_
    exact sim_ret (release_plain (by rfl) _)
theorem tt_impl_StrokeLength : PureOK Try.prog n_impl_StrokeLength (C1 (fun c : Int × Int => AV.tup [enc c.1, enc c.2]) t_impl_StrokeLength) := pureC1 (Econs tt_impl_ValidStroke (Econs tt_impl_strokeLength E0)) mixed hb_impl_StrokeLength fun s_ => ts_impl_StrokeLength _ (by simp [envL]) (by simp [envL]) s_

def s0_spec_l05Sum (s_ : Stroke) : (Int × Int) → Option (Sum (Int × Int) Int) := fun (w3, w4) =>
  bif decide (w4 < (((s_.points.getD []).length : Nat) : Int)) then
    obind (getI (s_.points.getD []) (wr (w4 - 1))) fun a10 =>
    obind (getI (s_.points.getD []) w4) fun a14 =>
    obind (t_spec_l05Length a10 a14) fun c18 =>
    some (.inl (wr (w3 + c18), wr (w4 + 1)))
  else
    some (.inr w3)
def t_spec_l05Sum (s_ : Stroke) : Option Int :=
  obind (loopT (s0_spec_l05Sum s_) (0, 1)) fun q7 =>
  some q7
def tp_spec_l05Sum (s_p : Pt Stroke) : Option Int := obind s_p.get fun s_ => t_spec_l05Sum s_

def t_spec_StrokeLength (s_ : Stroke) : Option (Int × Int) :=
  obind (t_spec_l02Stroke s_) fun c5 =>
  bif !c5 then
    some (0, 1)
  else
    obind (t_spec_l05Sum s_) fun c7 =>
    some (c7, 0)

def t_impl_firstOf (s_ : Stroke) : Option Point :=
  obind (getI (s_.points.getD []) 0) fun a9 =>
  some a9

theorem ts_impl_firstOf (env : Nat → Contract)  (s_ : Stroke) : Sim (denFn Try.prog env n_impl_firstOf [AV.agg [Sl.enc s_.points]] []) (t_impl_firstOf s_) fun c p => release p.2 depth p.1 = some ((fun c : Point => enc c) c) := by
  have O := Hold.nil []
  generalize hB : (⟨[], []⟩ : Base) = B at O
  clear hB
  rw [e_impl_firstOf]
  unfold t_impl_firstOf
  refine sim_box O (cs := [Sl.enc s_.points]) (by first | rfl | simp) (fun o1 h2 O3 => ?_)
  replace O3 : Hold B h2 [(AV.ptr o1 1 0 0, .pt 1 [Sl.enc s_.points])] := O3
  refine sim_box O3 (cs := [iv 0, iv 0, iv 0]) (by first | rfl | simp) (fun o5 h6 O7 => ?_)
  replace O7 : Hold B h6 [(AV.ptr o1 1 0 0, .pt 1 [Sl.enc s_.points]), (AV.ptr o5 1 0 0, .pt 3 [iv 0, iv 0, iv 0])] := O7
  refine sim_let (v := AV.ptr o1 1 0 0) rfl ?_
  refine sim_let (v := Sl.enc s_.points) (O7.ld 0 rfl false 1 0) ?_
  refine sim_get (Tab.enc h6 s_.points) (fun m10 a9 hi11 hm12 => ?_)
  refine sim_let (v := AV.agg [iv a9.x, iv a9.y, iv a9.t]) ((Tab.enc h6 s_.points).ld hm12 true 3 0) ?_
  refine sim_store O7 1 (cs' := [iv a9.x, iv a9.y, iv a9.t]) rfl (by first | rfl | simp) (by simp) (by first | rfl | simp) (by first | rfl | simp [splice]) (fun h13 O14 => ?_)
  replace O14 : Hold B h13 [(AV.ptr o1 1 0 0, .pt 1 [Sl.enc s_.points]), (AV.ptr o5 1 0 0, .pt 3 [iv a9.x, iv a9.y, iv a9.t])] := O14
  refine sim_retL (resL_c (v := AV.agg [iv a9.x, iv a9.y, iv a9.t]) (O14.ld 1 rfl true 3 0) (resL_nil _)) ?_
  dsimp only [pack]
  exact sim_ret (release_plain (by rfl) _)
theorem tt_impl_firstOf : PureOK Try.prog n_impl_firstOf (C1 (fun c : Point => enc c) t_impl_firstOf) := pureC1 E0 mixed hb_impl_firstOf fun s_ => ts_impl_firstOf _  s_

def t_impl_lastOf (s_ : Stroke) : Option Point :=
  obind (getI (s_.points.getD []) (wr ((((s_.points.getD []).length : Nat) : Int) - 1))) fun a9 =>
  some a9

theorem ts_impl_lastOf (env : Nat → Contract)  (s_ : Stroke) : Sim (denFn Try.prog env n_impl_lastOf [AV.agg [Sl.enc s_.points]] []) (t_impl_lastOf s_) fun c p => release p.2 depth p.1 = some ((fun c : Point => enc c) c) := by
  have O := Hold.nil []
  generalize hB : (⟨[], []⟩ : Base) = B at O
  clear hB
  rw [e_impl_lastOf]
  unfold t_impl_lastOf
  refine sim_box O (cs := [Sl.enc s_.points]) (by first | rfl | simp) (fun o1 h2 O3 => ?_)
  replace O3 : Hold B h2 [(AV.ptr o1 1 0 0, .pt 1 [Sl.enc s_.points])] := O3
  refine sim_box O3 (cs := [iv 0, iv 0, iv 0]) (by first | rfl | simp) (fun o5 h6 O7 => ?_)
  replace O7 : Hold B h6 [(AV.ptr o1 1 0 0, .pt 1 [Sl.enc s_.points]), (AV.ptr o5 1 0 0, .pt 3 [iv 0, iv 0, iv 0])] := O7
  refine sim_let (v := AV.ptr o1 1 0 0) rfl ?_
  refine sim_let (v := Sl.enc s_.points) (O7.ld 0 rfl false 1 0) ?_
  refine sim_let (v := AV.ptr o1 1 0 0) rfl ?_
  refine sim_let (v := Sl.enc s_.points) (O7.ld 0 rfl false 1 0) ?_
  refine sim_let (v := iv (((s_.points.getD []).length : Nat) : Int)) (Tab.enc h6 s_.points).len ?_
  refine sim_let (v := iv (wr ((((s_.points.getD []).length : Nat) : Int) - 1))) (aBin_sub _ _) ?_
  refine sim_get (Tab.enc h6 s_.points) (fun m10 a9 hi11 hm12 => ?_)
  refine sim_let (v := AV.agg [iv a9.x, iv a9.y, iv a9.t]) ((Tab.enc h6 s_.points).ld hm12 true 3 0) ?_
  refine sim_store O7 1 (cs' := [iv a9.x, iv a9.y, iv a9.t]) rfl (by first | rfl | simp) (by simp) (by first | rfl | simp) (by first | rfl | simp [splice]) (fun h13 O14 => ?_)
  replace O14 : Hold B h13 [(AV.ptr o1 1 0 0, .pt 1 [Sl.enc s_.points]), (AV.ptr o5 1 0 0, .pt 3 [iv a9.x, iv a9.y, iv a9.t])] := O14
  refine sim_retL (resL_c (v := AV.agg [iv a9.x, iv a9.y, iv a9.t]) (O14.ld 1 rfl true 3 0) (resL_nil _)) ?_
  dsimp only [pack]
  exact sim_ret (release_plain (by rfl) _)
theorem tt_impl_lastOf : PureOK Try.prog n_impl_lastOf (C1 (fun c : Point => enc c) t_impl_lastOf) := pureC1 E0 mixed hb_impl_lastOf fun s_ => ts_impl_lastOf _  s_

def t_spec_DrawReverseStroke (code_ : Sl UInt8) : Option Stroke :=
  obind (t_spec_l05Stroke (⟨code_, 0, 0⟩ : l00Src)) fun c9 =>
  some c9.1

theorem ts_spec_DrawReverseStroke (env : Nat → Contract) (he_spec_l00From : env n_spec_l00From = .pure (C1 fromA (fun q : Sl UInt8 => some q))) (he_spec_l05Stroke : env n_spec_l05Stroke = .gen (denFn Try.prog ev_spec_l05Stroke n_spec_l05Stroke)) (code_ : Sl UInt8) : Sim (denFn Try.prog env n_spec_DrawReverseStroke [Sl.enc code_] []) (t_spec_DrawReverseStroke code_) fun c p => release p.2 depth p.1 = some ((fun c : Stroke => AV.agg [rS c.points]) c) := by
  have O := Hold.nil []
  generalize hB : (⟨[], []⟩ : Base) = B at O
  clear hB
  rw [e_spec_DrawReverseStroke]
  unfold t_spec_DrawReverseStroke
  refine sim_box O (cs := [nilS]) (by first | rfl | simp) (fun o1 h2 O3 => ?_)
  replace O3 : Hold B h2 [(AV.ptr o1 1 0 0, .pt 1 [nilS])] := O3
  refine sim_src O3 he_spec_l00From (snapD_enc _ _) (by first | rfl | exact noRef_enc _) (fun o5 h6 O7 => ?_)
  replace O7 : Hold B h6 [(AV.ptr o1 1 0 0, .pt 1 [nilS]), (AV.ptr o5 1 0 0, .pt 3 [Sl.enc code_, iv 0, AV.sc (.int .u64 0)])] := O7
  refine sim_gen he_spec_l05Stroke (tg_spec_l05Stroke (⟨code_, 0, 0⟩ : l00Src) (O7.start (i := 1) rfl rfl)) (fun c9 v10 h11 hq12 => ?_)
  obtain ⟨x15, e_v10, O13⟩ := hq12
  dsimp only at e_v10
  subst v10
  have O14 : Hold B h11 [(AV.ptr o1 1 0 0, .pt 1 [nilS]), (AV.ptr o5 1 0 0, .pt 3 [Sl.enc c9.2.code, iv c9.2.pos, AV.sc (.int .u64 c9.2.seed)]), (x15, obS (c9.1.points : Sl Point))] := O7.merge (i := 1) rfl rfl O13
  refine sim_store O14 0 (cs' := [x15]) rfl (by first | rfl | simp [(O14.one (A := Point) (s := c9.1.points) 2 rfl).1, (O14.one (A := Point) (s := c9.1.points) 2 rfl).2]) (by simp) (by first | rfl | simp [(O14.one (A := Point) (s := c9.1.points) 2 rfl).1, (O14.one (A := Point) (s := c9.1.points) 2 rfl).2]) (by first | rfl | simp [splice, (O14.one (A := Point) (s := c9.1.points) 2 rfl).1, (O14.one (A := Point) (s := c9.1.points) 2 rfl).2]) (fun h17 O18 => ?_)
  replace O18 : Hold B h17 [(AV.ptr o1 1 0 0, .pt 1 [x15]), (AV.ptr o5 1 0 0, .pt 3 [Sl.enc c9.2.code, iv c9.2.pos, AV.sc (.int .u64 c9.2.seed)]), (x15, obS (c9.1.points : Sl Point))] := O18
  refine sim_retL (resL_c (v := AV.agg [x15]) (O18.ld 0 rfl true 1 0) (resL_nil _)) ?_
  dsimp only [pack]
  have O19 : Hold B h17 [(x15, obS (c9.1.points : Sl Point))] := O18.sel [2] (by decide) rfl
  exact sim_ret (release_of (by simp only [ids_tup, ids_aggD, ids_agg, ids_iv, ids_bv, ids_sv, ids_bt, ids_nilS, ids_enc, O19.idsD (A := Point) (s := c9.1.points) 0 rfl, List.map_append, List.map_nil, List.flatMap_cons, List.flatMap_nil, List.append_nil, List.nil_append]; simpa only [List.flatMap_cons, List.flatMap_nil, List.append_nil, List.nil_append] using O19.nd2) (by simp only [rel_tup, rel_aggD, rel_agg, rel_iv, rel_bv, rel_sv, rel_bt, rel_nilS, rel_enc, O19.relD (A := Point) (s := c9.1.points) 0 rfl, omapc, omapn, obind_sm] <;> rfl))
theorem tt_spec_DrawReverseStroke : PureOK Try.prog n_spec_DrawReverseStroke (C1 (fun c : Stroke => AV.agg [rS c.points]) t_spec_DrawReverseStroke) := pureC1 (Econs tt_spec_l00From (EconsG (gen_of_den eo_spec_l05Stroke mixed hb_spec_l05Stroke) E0)) mixed hb_spec_DrawReverseStroke fun code_ => ts_spec_DrawReverseStroke _ (by simp [envL]) (by simp [envL]) code_

def s0_impl_ReverseStroke (s_ : Stroke) (c13 : Point) (c14 : Point) : ((Sl Point) × Int) → Option (Sum ((Sl Point) × Int) (Sl Point)) := fun (w22, w25) =>
  bif decide (0 ≤ w25) then
    obind (getI (s_.points.getD []) w25) fun a36 =>
    obind (appO w22 ([(⟨a36.x, a36.y, wr ((wr (c13.t + c14.t)) - a36.t)⟩ : Point)] : List Point)) fun _ =>
    some (.inl ((appS w22 ([(⟨a36.x, a36.y, wr ((wr (c13.t + c14.t)) - a36.t)⟩ : Point)] : List Point)), wr (w25 - 1)))
  else
    some (.inr w22)
def t_impl_ReverseStroke (s_ : Stroke) : Option (Stroke × Int) :=
  obind (t_impl_ValidStroke s_) fun c9 =>
  bif !c9 then
    some ((⟨(none : Sl Point)⟩ : Stroke), 1)
  else
    obind (t_impl_firstOf s_) fun c13 =>
    obind (t_impl_lastOf s_) fun c14 =>
    obind (loopT (s0_impl_ReverseStroke s_ c13 c14) ((none : Sl Point), wr ((((s_.points.getD []).length : Nat) : Int) - 1))) fun q29 =>
    some ((⟨q29⟩ : Stroke), 0)

theorem tl0_impl_ReverseStroke (env : Nat → Contract) {B : Base} (he_impl_ValidStroke : env n_impl_ValidStroke = .pure (C1 (fun c : Bool => enc c) t_impl_ValidStroke)) (he_impl_firstOf : env n_impl_firstOf = .pure (C1 (fun c : Point => enc c) t_impl_firstOf)) (he_impl_lastOf : env n_impl_lastOf = .pure (C1 (fun c : Point => enc c) t_impl_lastOf)) (s_ : Stroke) (o1 : Nat) (o5 : Nat) (c9 : Bool) (c13 : Point) (c14 : Point) (o15 : Nat)  {st : (Sl Point) × Int} {tm : TM} {h : Heap} (R : (fun (st : (Sl Point) × Int) tm h23 => match st with | (w22, w25) => ∃ z21, tm = [AV.agg [Sl.enc s_.points], AV.ptr o1 1 0 0, AV.ptr o5 1 0 0, iv 0, iv (wr (c13.t + c14.t)), AV.ptr o15 1 0 0, iv w25, AV.top, AV.agg [Sl.enc s_.points], bv c9, bv (!c9), und, AV.agg [Sl.enc s_.points], AV.agg [iv c13.x, iv c13.y, iv c13.t], iv c13.t, AV.agg [Sl.enc s_.points], AV.agg [iv c14.x, iv c14.y, iv c14.t], iv c14.t, iv (wr (c13.t + c14.t)), AV.ptr o1 1 0 0, Sl.enc s_.points, iv (((s_.points.getD []).length : Nat) : Int), iv (wr ((((s_.points.getD []).length : Nat) : Int) - 1)), AV.top, AV.top, AV.top, AV.top, AV.top, AV.top, AV.top, AV.top, AV.top, AV.top, AV.top, AV.top, AV.top, AV.top, AV.top, AV.top, AV.top, AV.top, AV.top, AV.top, AV.top, AV.top, AV.top, und] ∧ Hold B h23 [(AV.ptr o1 1 0 0, .pt 1 [Sl.enc s_.points]), (AV.ptr o5 1 0 0, .pt 1 [nilS]), (AV.ptr o15 1 0 0, .pt 1 [z21]), (z21, obS (w22 : Sl Point))]) st tm h) : Sim (loopP hm0_impl_ReverseStroke xm0_impl_ReverseStroke (lb0_impl_ReverseStroke env) tm h) (loopT (s0_impl_ReverseStroke s_ c13 c14) st) (fun (q : Sl Point) (r : Res) => match q with | q29 => ∃ (q30 : Int) (z28 : AV) (z31 : AV) (h26 : Heap), r = (.exit 0, [AV.agg [Sl.enc s_.points], AV.ptr o1 1 0 0, AV.ptr o5 1 0 0, iv 0, iv (wr (c13.t + c14.t)), AV.ptr o15 1 0 0, iv q30, z31, AV.agg [Sl.enc s_.points], bv c9, bv (!c9), und, AV.agg [Sl.enc s_.points], AV.agg [iv c13.x, iv c13.y, iv c13.t], iv c13.t, AV.agg [Sl.enc s_.points], AV.agg [iv c14.x, iv c14.y, iv c14.t], iv c14.t, iv (wr (c13.t + c14.t)), AV.ptr o1 1 0 0, Sl.enc s_.points, iv (((s_.points.getD []).length : Nat) : Int), iv (wr ((((s_.points.getD []).length : Nat) : Int) - 1)), AV.top, AV.top, AV.top, AV.top, AV.top, AV.top, AV.top, AV.top, AV.top, AV.top, AV.top, AV.top, AV.top, AV.top, AV.top, AV.top, AV.top, AV.top, AV.top, AV.top, AV.top, AV.top, AV.top, und], h26) ∧ Hold B h26 [(AV.ptr o1 1 0 0, .pt 1 [Sl.enc s_.points]), (AV.ptr o5 1 0 0, .pt 1 [nilS]), (AV.ptr o15 1 0 0, .pt 1 [z28]), (z28, obS (q29 : Sl Point))]) := by
  refine loop_sim (Rel := fun (st : (Sl Point) × Int) tm h23 => match st with | (w22, w25) => ∃ z21, tm = [AV.agg [Sl.enc s_.points], AV.ptr o1 1 0 0, AV.ptr o5 1 0 0, iv 0, iv (wr (c13.t + c14.t)), AV.ptr o15 1 0 0, iv w25, AV.top, AV.agg [Sl.enc s_.points], bv c9, bv (!c9), und, AV.agg [Sl.enc s_.points], AV.agg [iv c13.x, iv c13.y, iv c13.t], iv c13.t, AV.agg [Sl.enc s_.points], AV.agg [iv c14.x, iv c14.y, iv c14.t], iv c14.t, iv (wr (c13.t + c14.t)), AV.ptr o1 1 0 0, Sl.enc s_.points, iv (((s_.points.getD []).length : Nat) : Int), iv (wr ((((s_.points.getD []).length : Nat) : Int) - 1)), AV.top, AV.top, AV.top, AV.top, AV.top, AV.top, AV.top, AV.top, AV.top, AV.top, AV.top, AV.top, AV.top, AV.top, AV.top, AV.top, AV.top, AV.top, AV.top, AV.top, AV.top, AV.top, AV.top, und] ∧ Hold B h23 [(AV.ptr o1 1 0 0, .pt 1 [Sl.enc s_.points]), (AV.ptr o5 1 0 0, .pt 1 [nilS]), (AV.ptr o15 1 0 0, .pt 1 [z21]), (z21, obS (w22 : Sl Point))]) (fun st tm h23 R => ?_) R
  obtain ⟨w22, w25⟩ := st
  obtain ⟨z21, rfl, O24⟩ := R
  rw [e_lb0_impl_ReverseStroke]
  unfold s0_impl_ReverseStroke
  dsimp only
  refine sim_let (v := bv (decide (0 ≤ w25))) (aBin_geq _ _) ?_
  refine sim_cond (fun c35 => ?_) (fun c35 => ?_)
  · refine sim_let (v := AV.ptr o1 1 0 0) rfl ?_
    refine sim_let (v := Sl.enc s_.points) (O24.ld 0 rfl false 1 0) ?_
    refine sim_get (Tab.enc h23 s_.points) (fun m37 a36 hi38 hm39 => ?_)
    refine sim_let (v := AV.agg [iv a36.x, iv a36.y, iv a36.t]) ((Tab.enc h23 s_.points).ld hm39 true 3 0) ?_
    refine sim_box O24 (cs := [iv 0, iv 0, iv 0]) (by first | rfl | simp) (fun o40 h41 O42 => ?_)
    replace O42 : Hold B h41 [(AV.ptr o1 1 0 0, .pt 1 [Sl.enc s_.points]), (AV.ptr o5 1 0 0, .pt 1 [nilS]), (AV.ptr o15 1 0 0, .pt 1 [z21]), (z21, obS (w22 : Sl Point)), (AV.ptr o40 1 0 0, .pt 3 [iv 0, iv 0, iv 0])] := O42
    refine sim_store O42 4 (cs' := [iv a36.x, iv a36.y, iv a36.t]) rfl (by first | rfl | simp) (by simp) (by first | rfl | simp) (by first | rfl | simp [splice]) (fun h44 O45 => ?_)
    replace O45 : Hold B h44 [(AV.ptr o1 1 0 0, .pt 1 [Sl.enc s_.points]), (AV.ptr o5 1 0 0, .pt 1 [nilS]), (AV.ptr o15 1 0 0, .pt 1 [z21]), (z21, obS (w22 : Sl Point)), (AV.ptr o40 1 0 0, .pt 3 [iv a36.x, iv a36.y, iv a36.t])] := O45
    refine sim_let (v := AV.ptr o15 1 0 0) rfl ?_
    refine sim_let (v := z21) (O45.ld 2 rfl false 1 0) ?_
    refine sim_let (v := AV.ptr o40 1 0 0) rfl ?_
    refine sim_let (v := iv a36.x) (O45.ld 4 rfl false 1 0) ?_
    refine sim_let (v := AV.ptr o40 1 0 1) rfl ?_
    refine sim_let (v := iv a36.y) (O45.ld 4 rfl false 1 1) ?_
    refine sim_let (v := AV.ptr o40 1 0 2) rfl ?_
    refine sim_let (v := iv a36.t) (O45.ld 4 rfl false 1 2) ?_
    refine sim_let (v := iv (wr ((wr (c13.t + c14.t)) - a36.t))) (aBin_sub _ _) ?_
    refine sim_let (v := AV.agg [iv a36.x, iv a36.y, iv (wr ((wr (c13.t + c14.t)) - a36.t))]) (by first | rfl | simp [aBuild, aFill, splice]) ?_
    refine sim_build (A := Point) O45 ([(⟨a36.x, a36.y, wr ((wr (c13.t + c14.t)) - a36.t)⟩ : Point)] : List Point) rfl (by first | rfl | simp [aFillRows, zrows]) rfl (fun x46 h47 O48 => ?_)
    replace O48 : Hold B h47 [(AV.ptr o1 1 0 0, .pt 1 [Sl.enc s_.points]), (AV.ptr o5 1 0 0, .pt 1 [nilS]), (AV.ptr o15 1 0 0, .pt 1 [z21]), (z21, obS (w22 : Sl Point)), (AV.ptr o40 1 0 0, .pt 3 [iv a36.x, iv a36.y, iv a36.t]), (x46, obS ((some ([(⟨a36.x, a36.y, wr ((wr (c13.t + c14.t)) - a36.t)⟩ : Point)] : List Point)) : Sl Point))] := O48
    refine sim_append (A := Point) (s := w22) O48 3 ([(⟨a36.x, a36.y, wr ((wr (c13.t + c14.t)) - a36.t)⟩ : Point)] : List Point) rfl (O48.src (A := Point) (s := (some ([(⟨a36.x, a36.y, wr ((wr (c13.t + c14.t)) - a36.t)⟩ : Point)] : List Point))) 5 rfl) (by decide) (fun x51 h52 O53 => ?_)
    replace O53 : Hold B h52 [(AV.ptr o1 1 0 0, .pt 1 [Sl.enc s_.points]), (AV.ptr o5 1 0 0, .pt 1 [nilS]), (AV.ptr o15 1 0 0, .pt 1 [z21]), (x51, obS ((appS w22 ([(⟨a36.x, a36.y, wr ((wr (c13.t + c14.t)) - a36.t)⟩ : Point)] : List Point)) : Sl Point)), (AV.ptr o40 1 0 0, .pt 3 [iv a36.x, iv a36.y, iv a36.t]), (x46, obS ((some ([(⟨a36.x, a36.y, wr ((wr (c13.t + c14.t)) - a36.t)⟩ : Point)] : List Point)) : Sl Point))] := O53
    have O55 : Hold B h52 [(AV.ptr o1 1 0 0, .pt 1 [Sl.enc s_.points]), (AV.ptr o5 1 0 0, .pt 1 [nilS]), (AV.ptr o15 1 0 0, .pt 1 [z21]), (x51, obS ((appS w22 ([(⟨a36.x, a36.y, wr ((wr (c13.t + c14.t)) - a36.t)⟩ : Point)] : List Point)) : Sl Point)), (AV.ptr o40 1 0 0, .pt 3 [iv a36.x, iv a36.y, iv a36.t])] := O53.sel [0, 1, 2, 3, 4] (by decide) rfl
    refine sim_let (v := AV.ptr o15 1 0 0) rfl ?_
    refine sim_store O55 2 (cs' := [x51]) rfl (by first | rfl | simp [(O55.one (A := Point) (s := (appS w22 ([(⟨a36.x, a36.y, wr ((wr (c13.t + c14.t)) - a36.t)⟩ : Point)] : List Point))) 3 rfl).1, (O55.one (A := Point) (s := (appS w22 ([(⟨a36.x, a36.y, wr ((wr (c13.t + c14.t)) - a36.t)⟩ : Point)] : List Point))) 3 rfl).2]) (by simp) (by first | rfl | simp [(O55.one (A := Point) (s := (appS w22 ([(⟨a36.x, a36.y, wr ((wr (c13.t + c14.t)) - a36.t)⟩ : Point)] : List Point))) 3 rfl).1, (O55.one (A := Point) (s := (appS w22 ([(⟨a36.x, a36.y, wr ((wr (c13.t + c14.t)) - a36.t)⟩ : Point)] : List Point))) 3 rfl).2]) (by first | rfl | simp [splice, (O55.one (A := Point) (s := (appS w22 ([(⟨a36.x, a36.y, wr ((wr (c13.t + c14.t)) - a36.t)⟩ : Point)] : List Point))) 3 rfl).1, (O55.one (A := Point) (s := (appS w22 ([(⟨a36.x, a36.y, wr ((wr (c13.t + c14.t)) - a36.t)⟩ : Point)] : List Point))) 3 rfl).2]) (fun h56 O57 => ?_)
    replace O57 : Hold B h56 [(AV.ptr o1 1 0 0, .pt 1 [Sl.enc s_.points]), (AV.ptr o5 1 0 0, .pt 1 [nilS]), (AV.ptr o15 1 0 0, .pt 1 [x51]), (x51, obS ((appS w22 ([(⟨a36.x, a36.y, wr ((wr (c13.t + c14.t)) - a36.t)⟩ : Point)] : List Point)) : Sl Point)), (AV.ptr o40 1 0 0, .pt 3 [iv a36.x, iv a36.y, iv a36.t])] := O57
    refine sim_let (v := iv (wr (w25 - 1))) (aBin_sub _ _) ?_
    have O58 : Hold B h56 [(AV.ptr o1 1 0 0, .pt 1 [Sl.enc s_.points]), (AV.ptr o5 1 0 0, .pt 1 [nilS]), (AV.ptr o15 1 0 0, .pt 1 [x51]), (x51, obS ((appS w22 ([(⟨a36.x, a36.y, wr ((wr (c13.t + c14.t)) - a36.t)⟩ : Point)] : List Point)) : Sl Point))] := O57.sel [0, 1, 2, 3] (by decide) rfl
    exact sim_ret ⟨rfl, _, rfl, O58⟩
  · exact sim_ret ⟨nofun, _, _, _, _, rfl, O24⟩
theorem ts_impl_ReverseStroke (env : Nat → Contract) (he_impl_ValidStroke : env n_impl_ValidStroke = .pure (C1 (fun c : Bool => enc c) t_impl_ValidStroke)) (he_impl_firstOf : env n_impl_firstOf = .pure (C1 (fun c : Point => enc c) t_impl_firstOf)) (he_impl_lastOf : env n_impl_lastOf = .pure (C1 (fun c : Point => enc c) t_impl_lastOf)) (s_ : Stroke) : Sim (denFn Try.prog env n_impl_ReverseStroke [AV.agg [Sl.enc s_.points]] []) (t_impl_ReverseStroke s_) fun c p => release p.2 depth p.1 = some ((fun c : Stroke × Int => AV.tup [AV.agg [rS c.1.points], enc c.2]) c) := by
  have O := Hold.nil []
  generalize hB : (⟨[], []⟩ : Base) = B at O
  clear hB
  rw [e_impl_ReverseStroke]
  unfold t_impl_ReverseStroke
  refine sim_box O (cs := [Sl.enc s_.points]) (by first | rfl | simp) (fun o1 h2 O3 => ?_)
  replace O3 : Hold B h2 [(AV.ptr o1 1 0 0, .pt 1 [Sl.enc s_.points])] := O3
  refine sim_box O3 (cs := [nilS]) (by first | rfl | simp) (fun o5 h6 O7 => ?_)
  replace O7 : Hold B h6 [(AV.ptr o1 1 0 0, .pt 1 [Sl.enc s_.points]), (AV.ptr o5 1 0 0, .pt 1 [nilS])] := O7
  refine sim_let (v := AV.agg [Sl.enc s_.points]) (O7.ld 0 rfl true 1 0) ?_
  refine sim_call1 he_impl_ValidStroke (snapD_nr _ s_ rfl) (fun c9 => ?_)
  refine sim_let2 (hand_plain (by rfl) _ _) ?_
  refine sim_let (v := bv (!c9)) (aUn_not _) ?_
  refine sim_cond (fun c10 => ?_) (fun c10 => ?_)
  · refine sim_let (v := AV.agg [nilS]) (by first | rfl | simp [aBuild, aFill, splice]) ?_
    refine sim_store O7 1 (cs' := [nilS]) rfl (by first | rfl | simp) (by simp) (by first | rfl | simp) (by first | rfl | simp [splice]) (fun h11 O12 => ?_)
    replace O12 : Hold B h11 [(AV.ptr o1 1 0 0, .pt 1 [Sl.enc s_.points]), (AV.ptr o5 1 0 0, .pt 1 [nilS])] := O12
    refine sim_retL (resL_c (v := AV.agg [nilS]) (O12.ld 1 rfl true 1 0) (resL_v (v := iv 1) (resL_nil _))) ?_
    dsimp only [pack]
    exact sim_ret (release_plain (by rfl) _)
  · refine sim_let (v := AV.agg [Sl.enc s_.points]) (O7.ld 0 rfl true 1 0) ?_
    refine sim_callQ1 he_impl_firstOf (snapD_nr _ s_ rfl) (fun c13 => ?_)
    refine sim_let2 (hand_plain (by rfl) _ _) ?_
    refine sim_let (v := iv c13.t) rfl ?_
    refine sim_let (v := AV.agg [Sl.enc s_.points]) (O7.ld 0 rfl true 1 0) ?_
    refine sim_callQ1 he_impl_lastOf (snapD_nr _ s_ rfl) (fun c14 => ?_)
    refine sim_let2 (hand_plain (by rfl) _ _) ?_
    refine sim_let (v := iv c14.t) rfl ?_
    refine sim_let (v := iv (wr (c13.t + c14.t))) (aBin_add _ _) ?_
    refine sim_box O7 (cs := [nilS]) (by first | rfl | simp) (fun o15 h16 O17 => ?_)
    replace O17 : Hold B h16 [(AV.ptr o1 1 0 0, .pt 1 [Sl.enc s_.points]), (AV.ptr o5 1 0 0, .pt 1 [nilS]), (AV.ptr o15 1 0 0, .pt 1 [nilS])] := O17
    refine sim_let (v := AV.ptr o1 1 0 0) rfl ?_
    refine sim_let (v := Sl.enc s_.points) (O17.ld 0 rfl false 1 0) ?_
    refine sim_let (v := iv (((s_.points.getD []).length : Nat) : Int)) (Tab.enc h16 s_.points).len ?_
    refine sim_let (v := iv (wr ((((s_.points.getD []).length : Nat) : Int) - 1))) (aBin_sub _ _) ?_
    have O19 : Hold B h16 [(AV.ptr o1 1 0 0, .pt 1 [Sl.enc s_.points]), (AV.ptr o5 1 0 0, .pt 1 [nilS]), (AV.ptr o15 1 0 0, .pt 1 [nilS]), (nilS, obS ((none : Sl Point) : Sl Point))] := O17.addnil
    refine sim_bind ((tl0_impl_ReverseStroke env he_impl_ValidStroke he_impl_firstOf he_impl_lastOf s_ o1 o5 c9 c13 c14 o15) ⟨_, rfl, O19⟩) (fun qq61 r hq => ?_)
    revert hq
    revert qq61
    intro q29 hq
    obtain ⟨q30, z28, z31, h26, rfl, O27⟩ := hq
    rw [e_lk0x0_impl_ReverseStroke]
    refine sim_let (v := AV.agg [z28]) (O27.ld 2 rfl true 1 0) ?_
    refine sim_store O27 1 (cs' := [z28]) rfl (by first | rfl | simp [(O27.one (A := Point) (s := q29) 3 rfl).1, (O27.one (A := Point) (s := q29) 3 rfl).2]) (by simp) (by first | rfl | simp [(O27.one (A := Point) (s := q29) 3 rfl).1, (O27.one (A := Point) (s := q29) 3 rfl).2]) (by first | rfl | simp [splice, (O27.one (A := Point) (s := q29) 3 rfl).1, (O27.one (A := Point) (s := q29) 3 rfl).2]) (fun h32 O33 => ?_)
    replace O33 : Hold B h32 [(AV.ptr o1 1 0 0, .pt 1 [Sl.enc s_.points]), (AV.ptr o5 1 0 0, .pt 1 [z28]), (AV.ptr o15 1 0 0, .pt 1 [z28]), (z28, obS (q29 : Sl Point))] := O33
    refine sim_retL (resL_c (v := AV.agg [z28]) (O33.ld 1 rfl true 1 0) (resL_v (v := iv 0) (resL_nil _))) ?_
    dsimp only [pack]
    have O34 : Hold B h32 [(z28, obS (q29 : Sl Point))] := O33.sel [3] (by decide) rfl
    exact sim_ret (release_of (by simp only [ids_tup, ids_aggD, ids_agg, ids_iv, ids_bv, ids_sv, ids_bt, ids_nilS, ids_enc, O34.idsD (A := Point) (s := q29) 0 rfl, List.map_append, List.map_nil, List.flatMap_cons, List.flatMap_nil, List.append_nil, List.nil_append]; simpa only [List.flatMap_cons, List.flatMap_nil, List.append_nil, List.nil_append] using O34.nd2) (by simp only [rel_tup, rel_aggD, rel_agg, rel_iv, rel_bv, rel_sv, rel_bt, rel_nilS, rel_enc, O34.relD (A := Point) (s := q29) 0 rfl, omapc, omapn, obind_sm] <;> rfl))
theorem tt_impl_ReverseStroke : PureOK Try.prog n_impl_ReverseStroke (C1 (fun c : Stroke × Int => AV.tup [AV.agg [rS c.1.points], enc c.2]) t_impl_ReverseStroke) := pureC1 (Econs tt_impl_ValidStroke (Econs tt_impl_firstOf (Econs tt_impl_lastOf E0))) mixed hb_impl_ReverseStroke fun s_ => ts_impl_ReverseStroke _ (by simp [envL]) (by simp [envL]) (by simp [envL]) s_

def s0_spec_ReverseStroke (s_ : Stroke) : ((Sl Point) × Int) → Option (Sum ((Sl Point) × Int) (Sl Point)) := fun (w22, w25) =>
  bif decide (0 ≤ w25) then
    obind (getI (s_.points.getD []) w25) fun a36 =>
    obind (getI (s_.points.getD []) 0) fun a46 =>
    obind (getI (s_.points.getD []) (wr ((((s_.points.getD []).length : Nat) : Int) - 1))) fun a50 =>
    obind (appO w22 ([(⟨a36.x, a36.y, wr ((wr (a46.t + a50.t)) - a36.t)⟩ : Point)] : List Point)) fun _ =>
    some (.inl ((appS w22 ([(⟨a36.x, a36.y, wr ((wr (a46.t + a50.t)) - a36.t)⟩ : Point)] : List Point)), wr (w25 - 1)))
  else
    some (.inr w22)
def t_spec_ReverseStroke (s_ : Stroke) : Option (Stroke × Int) :=
  obind (t_spec_l02Stroke s_) fun c9 =>
  bif !c9 then
    some ((⟨(none : Sl Point)⟩ : Stroke), 1)
  else
    obind (loopT (s0_spec_ReverseStroke s_) ((none : Sl Point), wr ((((s_.points.getD []).length : Nat) : Int) - 1))) fun q29 =>
    some ((⟨q29⟩ : Stroke), 0)

theorem tl0_spec_ReverseStroke (env : Nat → Contract) {B : Base} (he_spec_l02Stroke : env n_spec_l02Stroke = .pure (C1 (fun c : Bool => enc c) tp_spec_l02Stroke)) (s_ : Stroke) (o1 : Nat) (o5 : Nat) (c9 : Bool) (o13 : Nat)  {st : (Sl Point) × Int} {tm : TM} {h : Heap} (R : (fun (st : (Sl Point) × Int) tm h23 => match st with | (w22, w25) => ∃ z21, tm = [AV.agg [Sl.enc s_.points], AV.ptr o1 1 0 0, AV.ptr o5 1 0 0, iv 0, AV.ptr o13 1 0 0, iv (((s_.points.getD []).length : Nat) : Int), iv w25, AV.top, bv c9, bv (!c9), und, AV.agg [nilS], AV.ptr o1 1 0 0, Sl.enc s_.points, iv (((s_.points.getD []).length : Nat) : Int), iv (((s_.points.getD []).length : Nat) : Int), iv (wr ((((s_.points.getD []).length : Nat) : Int) - 1)), AV.top, AV.top, AV.top, AV.top, AV.top, AV.top, AV.top, AV.top, AV.top, AV.top, AV.top, AV.top, AV.top, AV.top, AV.top, AV.top, AV.top, AV.top, AV.top, AV.top, AV.top, AV.top, AV.top, AV.top, AV.top, AV.top, AV.top, AV.top, AV.top, AV.top, AV.top, AV.top, AV.top, AV.top, AV.top, und] ∧ Hold B h23 [(AV.ptr o1 1 0 0, .pt 1 [Sl.enc s_.points]), (AV.ptr o5 1 0 0, .pt 1 [nilS]), (AV.ptr o13 1 0 0, .pt 1 [z21]), (z21, obS (w22 : Sl Point))]) st tm h) : Sim (loopP hm0_spec_ReverseStroke xm0_spec_ReverseStroke (lb0_spec_ReverseStroke env) tm h) (loopT (s0_spec_ReverseStroke s_) st) (fun (q : Sl Point) (r : Res) => match q with | q29 => ∃ (q30 : Int) (z28 : AV) (z31 : AV) (h26 : Heap), r = (.exit 0, [AV.agg [Sl.enc s_.points], AV.ptr o1 1 0 0, AV.ptr o5 1 0 0, iv 0, AV.ptr o13 1 0 0, iv (((s_.points.getD []).length : Nat) : Int), iv q30, z31, bv c9, bv (!c9), und, AV.agg [nilS], AV.ptr o1 1 0 0, Sl.enc s_.points, iv (((s_.points.getD []).length : Nat) : Int), iv (((s_.points.getD []).length : Nat) : Int), iv (wr ((((s_.points.getD []).length : Nat) : Int) - 1)), AV.top, AV.top, AV.top, AV.top, AV.top, AV.top, AV.top, AV.top, AV.top, AV.top, AV.top, AV.top, AV.top, AV.top, AV.top, AV.top, AV.top, AV.top, AV.top, AV.top, AV.top, AV.top, AV.top, AV.top, AV.top, AV.top, AV.top, AV.top, AV.top, AV.top, AV.top, AV.top, AV.top, AV.top, AV.top, und], h26) ∧ Hold B h26 [(AV.ptr o1 1 0 0, .pt 1 [Sl.enc s_.points]), (AV.ptr o5 1 0 0, .pt 1 [nilS]), (AV.ptr o13 1 0 0, .pt 1 [z28]), (z28, obS (q29 : Sl Point))]) := by
  refine loop_sim (Rel := fun (st : (Sl Point) × Int) tm h23 => match st with | (w22, w25) => ∃ z21, tm = [AV.agg [Sl.enc s_.points], AV.ptr o1 1 0 0, AV.ptr o5 1 0 0, iv 0, AV.ptr o13 1 0 0, iv (((s_.points.getD []).length : Nat) : Int), iv w25, AV.top, bv c9, bv (!c9), und, AV.agg [nilS], AV.ptr o1 1 0 0, Sl.enc s_.points, iv (((s_.points.getD []).length : Nat) : Int), iv (((s_.points.getD []).length : Nat) : Int), iv (wr ((((s_.points.getD []).length : Nat) : Int) - 1)), AV.top, AV.top, AV.top, AV.top, AV.top, AV.top, AV.top, AV.top, AV.top, AV.top, AV.top, AV.top, AV.top, AV.top, AV.top, AV.top, AV.top, AV.top, AV.top, AV.top, AV.top, AV.top, AV.top, AV.top, AV.top, AV.top, AV.top, AV.top, AV.top, AV.top, AV.top, AV.top, AV.top, AV.top, AV.top, und] ∧ Hold B h23 [(AV.ptr o1 1 0 0, .pt 1 [Sl.enc s_.points]), (AV.ptr o5 1 0 0, .pt 1 [nilS]), (AV.ptr o13 1 0 0, .pt 1 [z21]), (z21, obS (w22 : Sl Point))]) (fun st tm h23 R => ?_) R
  obtain ⟨w22, w25⟩ := st
  obtain ⟨z21, rfl, O24⟩ := R
  rw [e_lb0_spec_ReverseStroke]
  unfold s0_spec_ReverseStroke
  dsimp only
  refine sim_let (v := bv (decide (0 ≤ w25))) (aBin_geq _ _) ?_
  refine sim_cond (fun c35 => ?_) (fun c35 => ?_)
  · refine sim_let (v := AV.ptr o1 1 0 0) rfl ?_
    refine sim_let (v := Sl.enc s_.points) (O24.ld 0 rfl false 1 0) ?_
    refine sim_get (Tab.enc h23 s_.points) (fun m37 a36 hi38 hm39 => ?_)
    refine sim_let (v := AV.agg [iv a36.x, iv a36.y, iv a36.t]) ((Tab.enc h23 s_.points).ld hm39 true 3 0) ?_
    refine sim_box O24 (cs := [iv 0, iv 0, iv 0]) (by first | rfl | simp) (fun o40 h41 O42 => ?_)
    replace O42 : Hold B h41 [(AV.ptr o1 1 0 0, .pt 1 [Sl.enc s_.points]), (AV.ptr o5 1 0 0, .pt 1 [nilS]), (AV.ptr o13 1 0 0, .pt 1 [z21]), (z21, obS (w22 : Sl Point)), (AV.ptr o40 1 0 0, .pt 3 [iv 0, iv 0, iv 0])] := O42
    refine sim_store O42 4 (cs' := [iv a36.x, iv a36.y, iv a36.t]) rfl (by first | rfl | simp) (by simp) (by first | rfl | simp) (by first | rfl | simp [splice]) (fun h44 O45 => ?_)
    replace O45 : Hold B h44 [(AV.ptr o1 1 0 0, .pt 1 [Sl.enc s_.points]), (AV.ptr o5 1 0 0, .pt 1 [nilS]), (AV.ptr o13 1 0 0, .pt 1 [z21]), (z21, obS (w22 : Sl Point)), (AV.ptr o40 1 0 0, .pt 3 [iv a36.x, iv a36.y, iv a36.t])] := O45
    refine sim_let (v := AV.ptr o13 1 0 0) rfl ?_
    refine sim_let (v := z21) (O45.ld 2 rfl false 1 0) ?_
    refine sim_let (v := AV.ptr o40 1 0 0) rfl ?_
    refine sim_let (v := iv a36.x) (O45.ld 4 rfl false 1 0) ?_
    refine sim_let (v := AV.ptr o40 1 0 1) rfl ?_
    refine sim_let (v := iv a36.y) (O45.ld 4 rfl false 1 1) ?_
    refine sim_let (v := AV.ptr o1 1 0 0) rfl ?_
    refine sim_let (v := Sl.enc s_.points) (O45.ld 0 rfl false 1 0) ?_
    refine sim_get (Tab.enc h44 s_.points) (fun m47 a46 hi48 hm49 => ?_)
    refine sim_let (v := elp (Sl.enc s_.points) m47 2) ((Tab.enc h44 s_.points).fld _ _ _) ?_
    refine sim_let (v := iv a46.t) ((Tab.enc h44 s_.points).ld hm49 false 1 2) ?_
    refine sim_let (v := AV.ptr o1 1 0 0) rfl ?_
    refine sim_let (v := Sl.enc s_.points) (O45.ld 0 rfl false 1 0) ?_
    refine sim_let (v := iv (wr ((((s_.points.getD []).length : Nat) : Int) - 1))) (aBin_sub _ _) ?_
    refine sim_get (Tab.enc h44 s_.points) (fun m51 a50 hi52 hm53 => ?_)
    refine sim_let (v := elp (Sl.enc s_.points) m51 2) ((Tab.enc h44 s_.points).fld _ _ _) ?_
    refine sim_let (v := iv a50.t) ((Tab.enc h44 s_.points).ld hm53 false 1 2) ?_
    refine sim_let (v := iv (wr (a46.t + a50.t))) (aBin_add _ _) ?_
    refine sim_let (v := AV.ptr o40 1 0 2) rfl ?_
    refine sim_let (v := iv a36.t) (O45.ld 4 rfl false 1 2) ?_
    refine sim_let (v := iv (wr ((wr (a46.t + a50.t)) - a36.t))) (aBin_sub _ _) ?_
    refine sim_let (v := AV.agg [iv a36.x, iv a36.y, iv (wr ((wr (a46.t + a50.t)) - a36.t))]) (by first | rfl | simp [aBuild, aFill, splice]) ?_
    refine sim_build (A := Point) O45 ([(⟨a36.x, a36.y, wr ((wr (a46.t + a50.t)) - a36.t)⟩ : Point)] : List Point) rfl (by first | rfl | simp [aFillRows, zrows]) rfl (fun x54 h55 O56 => ?_)
    replace O56 : Hold B h55 [(AV.ptr o1 1 0 0, .pt 1 [Sl.enc s_.points]), (AV.ptr o5 1 0 0, .pt 1 [nilS]), (AV.ptr o13 1 0 0, .pt 1 [z21]), (z21, obS (w22 : Sl Point)), (AV.ptr o40 1 0 0, .pt 3 [iv a36.x, iv a36.y, iv a36.t]), (x54, obS ((some ([(⟨a36.x, a36.y, wr ((wr (a46.t + a50.t)) - a36.t)⟩ : Point)] : List Point)) : Sl Point))] := O56
    refine sim_append (A := Point) (s := w22) O56 3 ([(⟨a36.x, a36.y, wr ((wr (a46.t + a50.t)) - a36.t)⟩ : Point)] : List Point) rfl (O56.src (A := Point) (s := (some ([(⟨a36.x, a36.y, wr ((wr (a46.t + a50.t)) - a36.t)⟩ : Point)] : List Point))) 5 rfl) (by decide) (fun x59 h60 O61 => ?_)
    replace O61 : Hold B h60 [(AV.ptr o1 1 0 0, .pt 1 [Sl.enc s_.points]), (AV.ptr o5 1 0 0, .pt 1 [nilS]), (AV.ptr o13 1 0 0, .pt 1 [z21]), (x59, obS ((appS w22 ([(⟨a36.x, a36.y, wr ((wr (a46.t + a50.t)) - a36.t)⟩ : Point)] : List Point)) : Sl Point)), (AV.ptr o40 1 0 0, .pt 3 [iv a36.x, iv a36.y, iv a36.t]), (x54, obS ((some ([(⟨a36.x, a36.y, wr ((wr (a46.t + a50.t)) - a36.t)⟩ : Point)] : List Point)) : Sl Point))] := O61
    have O63 : Hold B h60 [(AV.ptr o1 1 0 0, .pt 1 [Sl.enc s_.points]), (AV.ptr o5 1 0 0, .pt 1 [nilS]), (AV.ptr o13 1 0 0, .pt 1 [z21]), (x59, obS ((appS w22 ([(⟨a36.x, a36.y, wr ((wr (a46.t + a50.t)) - a36.t)⟩ : Point)] : List Point)) : Sl Point)), (AV.ptr o40 1 0 0, .pt 3 [iv a36.x, iv a36.y, iv a36.t])] := O61.sel [0, 1, 2, 3, 4] (by decide) rfl
    refine sim_let (v := AV.ptr o13 1 0 0) rfl ?_
    refine sim_store O63 2 (cs' := [x59]) rfl (by first | rfl | simp [(O63.one (A := Point) (s := (appS w22 ([(⟨a36.x, a36.y, wr ((wr (a46.t + a50.t)) - a36.t)⟩ : Point)] : List Point))) 3 rfl).1, (O63.one (A := Point) (s := (appS w22 ([(⟨a36.x, a36.y, wr ((wr (a46.t + a50.t)) - a36.t)⟩ : Point)] : List Point))) 3 rfl).2]) (by simp) (by first | rfl | simp [(O63.one (A := Point) (s := (appS w22 ([(⟨a36.x, a36.y, wr ((wr (a46.t + a50.t)) - a36.t)⟩ : Point)] : List Point))) 3 rfl).1, (O63.one (A := Point) (s := (appS w22 ([(⟨a36.x, a36.y, wr ((wr (a46.t + a50.t)) - a36.t)⟩ : Point)] : List Point))) 3 rfl).2]) (by first | rfl | simp [splice, (O63.one (A := Point) (s := (appS w22 ([(⟨a36.x, a36.y, wr ((wr (a46.t + a50.t)) - a36.t)⟩ : Point)] : List Point))) 3 rfl).1, (O63.one (A := Point) (s := (appS w22 ([(⟨a36.x, a36.y, wr ((wr (a46.t + a50.t)) - a36.t)⟩ : Point)] : List Point))) 3 rfl).2]) (fun h64 O65 => ?_)
    replace O65 : Hold B h64 [(AV.ptr o1 1 0 0, .pt 1 [Sl.enc s_.points]), (AV.ptr o5 1 0 0, .pt 1 [nilS]), (AV.ptr o13 1 0 0, .pt 1 [x59]), (x59, obS ((appS w22 ([(⟨a36.x, a36.y, wr ((wr (a46.t + a50.t)) - a36.t)⟩ : Point)] : List Point)) : Sl Point)), (AV.ptr o40 1 0 0, .pt 3 [iv a36.x, iv a36.y, iv a36.t])] := O65
    refine sim_let (v := iv (wr (w25 - 1))) (aBin_sub _ _) ?_
    have O66 : Hold B h64 [(AV.ptr o1 1 0 0, .pt 1 [Sl.enc s_.points]), (AV.ptr o5 1 0 0, .pt 1 [nilS]), (AV.ptr o13 1 0 0, .pt 1 [x59]), (x59, obS ((appS w22 ([(⟨a36.x, a36.y, wr ((wr (a46.t + a50.t)) - a36.t)⟩ : Point)] : List Point)) : Sl Point))] := O65.sel [0, 1, 2, 3] (by decide) rfl
    exact sim_ret ⟨rfl, _, rfl, O66⟩
  · exact sim_ret ⟨nofun, _, _, _, _, rfl, O24⟩
theorem ts_spec_ReverseStroke (env : Nat → Contract) (he_spec_l02Stroke : env n_spec_l02Stroke = .pure (C1 (fun c : Bool => enc c) tp_spec_l02Stroke)) (s_ : Stroke) : Sim (denFn Try.prog env n_spec_ReverseStroke [AV.agg [Sl.enc s_.points]] []) (t_spec_ReverseStroke s_) fun c p => release p.2 depth p.1 = some ((fun c : Stroke × Int => AV.tup [AV.agg [rS c.1.points], enc c.2]) c) := by
  have O := Hold.nil []
  generalize hB : (⟨[], []⟩ : Base) = B at O
  clear hB
  rw [e_spec_ReverseStroke]
  unfold t_spec_ReverseStroke
  refine sim_box O (cs := [Sl.enc s_.points]) (by first | rfl | simp) (fun o1 h2 O3 => ?_)
  replace O3 : Hold B h2 [(AV.ptr o1 1 0 0, .pt 1 [Sl.enc s_.points])] := O3
  refine sim_box O3 (cs := [nilS]) (by first | rfl | simp) (fun o5 h6 O7 => ?_)
  replace O7 : Hold B h6 [(AV.ptr o1 1 0 0, .pt 1 [Sl.enc s_.points]), (AV.ptr o5 1 0 0, .pt 1 [nilS])] := O7
  refine sim_eqO (y' := tp_spec_l02Stroke ⟨[s_], 0⟩) (by simp only [tp_spec_l02Stroke, get_pt1, obind_sm]) ?_
  refine sim_call1 he_spec_l02Stroke (O7.snapRn 0 rfl s_ rfl rfl) (fun c9 => ?_)
  refine sim_let2 (hand_plain (by rfl) _ _) ?_
  refine sim_let (v := bv (!c9)) (aUn_not _) ?_
  refine sim_cond (fun c10 => ?_) (fun c10 => ?_)
  · refine sim_let (v := AV.agg [nilS]) (by first | rfl | simp [aBuild, aFill, splice]) ?_
    refine sim_store O7 1 (cs' := [nilS]) rfl (by first | rfl | simp) (by simp) (by first | rfl | simp) (by first | rfl | simp [splice]) (fun h11 O12 => ?_)
    replace O12 : Hold B h11 [(AV.ptr o1 1 0 0, .pt 1 [Sl.enc s_.points]), (AV.ptr o5 1 0 0, .pt 1 [nilS])] := O12
    refine sim_retL (resL_c (v := AV.agg [nilS]) (O12.ld 1 rfl true 1 0) (resL_v (v := iv 1) (resL_nil _))) ?_
    dsimp only [pack]
    exact sim_ret (release_plain (by rfl) _)
  · refine sim_let (v := AV.agg [nilS]) (by first | rfl | simp [aBuild, aFill, splice]) ?_
    refine sim_box O7 (cs := [nilS]) (by first | rfl | simp) (fun o13 h14 O15 => ?_)
    replace O15 : Hold B h14 [(AV.ptr o1 1 0 0, .pt 1 [Sl.enc s_.points]), (AV.ptr o5 1 0 0, .pt 1 [nilS]), (AV.ptr o13 1 0 0, .pt 1 [nilS])] := O15
    refine sim_store O15 2 (cs' := [nilS]) rfl (by first | rfl | simp) (by simp) (by first | rfl | simp) (by first | rfl | simp [splice]) (fun h17 O18 => ?_)
    replace O18 : Hold B h17 [(AV.ptr o1 1 0 0, .pt 1 [Sl.enc s_.points]), (AV.ptr o5 1 0 0, .pt 1 [nilS]), (AV.ptr o13 1 0 0, .pt 1 [nilS])] := O18
    refine sim_let (v := AV.ptr o1 1 0 0) rfl ?_
    refine sim_let (v := Sl.enc s_.points) (O18.ld 0 rfl false 1 0) ?_
    refine sim_let (v := iv (((s_.points.getD []).length : Nat) : Int)) (Tab.enc h17 s_.points).len ?_
    refine sim_let (v := iv (wr ((((s_.points.getD []).length : Nat) : Int) - 1))) (aBin_sub _ _) ?_
    have O19 : Hold B h17 [(AV.ptr o1 1 0 0, .pt 1 [Sl.enc s_.points]), (AV.ptr o5 1 0 0, .pt 1 [nilS]), (AV.ptr o13 1 0 0, .pt 1 [nilS]), (nilS, obS ((none : Sl Point) : Sl Point))] := O18.addnil
    refine sim_bind ((tl0_spec_ReverseStroke env he_spec_l02Stroke s_ o1 o5 c9 o13) ⟨_, rfl, O19⟩) (fun qq69 r hq => ?_)
    revert hq
    revert qq69
    intro q29 hq
    obtain ⟨q30, z28, z31, h26, rfl, O27⟩ := hq
    rw [e_lk0x0_spec_ReverseStroke]
    refine sim_let (v := AV.agg [z28]) (O27.ld 2 rfl true 1 0) ?_
    refine sim_store O27 1 (cs' := [z28]) rfl (by first | rfl | simp [(O27.one (A := Point) (s := q29) 3 rfl).1, (O27.one (A := Point) (s := q29) 3 rfl).2]) (by simp) (by first | rfl | simp [(O27.one (A := Point) (s := q29) 3 rfl).1, (O27.one (A := Point) (s := q29) 3 rfl).2]) (by first | rfl | simp [splice, (O27.one (A := Point) (s := q29) 3 rfl).1, (O27.one (A := Point) (s := q29) 3 rfl).2]) (fun h32 O33 => ?_)
    replace O33 : Hold B h32 [(AV.ptr o1 1 0 0, .pt 1 [Sl.enc s_.points]), (AV.ptr o5 1 0 0, .pt 1 [z28]), (AV.ptr o13 1 0 0, .pt 1 [z28]), (z28, obS (q29 : Sl Point))] := O33
    refine sim_retL (resL_c (v := AV.agg [z28]) (O33.ld 1 rfl true 1 0) (resL_v (v := iv 0) (resL_nil _))) ?_
    dsimp only [pack]
    have O34 : Hold B h32 [(z28, obS (q29 : Sl Point))] := O33.sel [3] (by decide) rfl
    exact sim_ret (release_of (by simp only [ids_tup, ids_aggD, ids_agg, ids_iv, ids_bv, ids_sv, ids_bt, ids_nilS, ids_enc, O34.idsD (A := Point) (s := q29) 0 rfl, List.map_append, List.map_nil, List.flatMap_cons, List.flatMap_nil, List.append_nil, List.nil_append]; simpa only [List.flatMap_cons, List.flatMap_nil, List.append_nil, List.nil_append] using O34.nd2) (by simp only [rel_tup, rel_aggD, rel_agg, rel_iv, rel_bv, rel_sv, rel_bt, rel_nilS, rel_enc, O34.relD (A := Point) (s := q29) 0 rfl, omapc, omapn, obind_sm] <;> rfl))
theorem tt_spec_ReverseStroke : PureOK Try.prog n_spec_ReverseStroke (C1 (fun c : Stroke × Int => AV.tup [AV.agg [rS c.1.points], enc c.2]) t_spec_ReverseStroke) := pureC1 (Econs tt_spec_l02Stroke E0) mixed hb_spec_ReverseStroke fun s_ => ts_spec_ReverseStroke _ (by simp [envL]) s_

def s0_impl_StrokeArea (s_ : Stroke) : (Int × Int) → Option (Sum (Int × Int) Int) := fun (w9, w10) =>
  bif decide (w10 < (((s_.points.getD []).length : Nat) : Int)) then
    obind (getI (s_.points.getD []) w10) fun a18 =>
    obind (remI (wr (w10 + 1)) (((s_.points.getD []).length : Nat) : Int)) fun q28 =>
    obind (getI (s_.points.getD []) q28) fun a29 =>
    some (.inl (wr (w9 + (wr ((wr (a18.x * a29.y)) - (wr (a18.y * a29.x))))), wr (w10 + 1)))
  else
    some (.inr w9)
def t_impl_StrokeArea (s_ : Stroke) : Option (Int × Int) :=
  obind (t_impl_ValidStroke s_) fun c5 =>
  bif !c5 then
    some (0, 1)
  else
    obind (loopT (s0_impl_StrokeArea s_) (0, 0)) fun q13 =>
    some (q13, 0)

theorem tl0_impl_StrokeArea (env : Nat → Contract) {B : Base} (he_impl_ValidStroke : env n_impl_ValidStroke = .pure (C1 (fun c : Bool => enc c) t_impl_ValidStroke)) (s_ : Stroke) (o1 : Nat) (c5 : Bool)  {st : Int × Int} {tm : TM} {h : Heap} (R : (fun (st : Int × Int) tm h7 => match st with | (w9, w10) => tm = [AV.agg [Sl.enc s_.points], AV.ptr o1 1 0 0, iv 0, iv 0, iv w9, AV.top, AV.top, AV.top, AV.agg [Sl.enc s_.points], bv c5, bv (!c5), AV.ptr o1 1 0 0, Sl.enc s_.points, iv (((s_.points.getD []).length : Nat) : Int), iv w10, AV.top, AV.top, AV.top, AV.top, AV.top, AV.top, AV.top, AV.top, AV.top, AV.top, AV.top, AV.top, AV.top, AV.top, AV.top, AV.top, AV.top, AV.top, AV.top, AV.top, AV.top, AV.top, AV.top, AV.top, AV.top, AV.top, AV.top, AV.top, und] ∧ Hold B h7 [(AV.ptr o1 1 0 0, .pt 1 [Sl.enc s_.points])]) st tm h) : Sim (loopP hm0_impl_StrokeArea xm0_impl_StrokeArea (lb0_impl_StrokeArea env) tm h) (loopT (s0_impl_StrokeArea s_) st) (fun (q : Int) (r : Res) => match q with | q13 => ∃ (z14 : AV) (z15 : AV) (z16 : AV) (h11 : Heap), r = (.exit 0, [AV.agg [Sl.enc s_.points], AV.ptr o1 1 0 0, iv 0, iv 0, iv q13, z14, z15, z16, AV.agg [Sl.enc s_.points], bv c5, bv (!c5), AV.ptr o1 1 0 0, Sl.enc s_.points, iv (((s_.points.getD []).length : Nat) : Int), AV.top, AV.top, AV.top, AV.top, AV.top, AV.top, AV.top, AV.top, AV.top, AV.top, AV.top, AV.top, AV.top, AV.top, AV.top, AV.top, AV.top, AV.top, AV.top, AV.top, AV.top, AV.top, AV.top, AV.top, AV.top, AV.top, AV.top, AV.top, AV.top, und], h11) ∧ Hold B h11 [(AV.ptr o1 1 0 0, .pt 1 [Sl.enc s_.points])]) := by
  refine loop_sim (Rel := fun (st : Int × Int) tm h7 => match st with | (w9, w10) => tm = [AV.agg [Sl.enc s_.points], AV.ptr o1 1 0 0, iv 0, iv 0, iv w9, AV.top, AV.top, AV.top, AV.agg [Sl.enc s_.points], bv c5, bv (!c5), AV.ptr o1 1 0 0, Sl.enc s_.points, iv (((s_.points.getD []).length : Nat) : Int), iv w10, AV.top, AV.top, AV.top, AV.top, AV.top, AV.top, AV.top, AV.top, AV.top, AV.top, AV.top, AV.top, AV.top, AV.top, AV.top, AV.top, AV.top, AV.top, AV.top, AV.top, AV.top, AV.top, AV.top, AV.top, AV.top, AV.top, AV.top, AV.top, und] ∧ Hold B h7 [(AV.ptr o1 1 0 0, .pt 1 [Sl.enc s_.points])]) (fun st tm h7 R => ?_) R
  obtain ⟨w9, w10⟩ := st
  obtain ⟨rfl, O8⟩ := R
  rw [e_lb0_impl_StrokeArea]
  unfold s0_impl_StrokeArea
  dsimp only
  refine sim_let (v := bv (decide (w10 < (((s_.points.getD []).length : Nat) : Int)))) (aBin_lss _ _) ?_
  refine sim_cond (fun c17 => ?_) (fun c17 => ?_)
  · refine sim_get (Tab.enc h7 s_.points) (fun m19 a18 hi20 hm21 => ?_)
    refine sim_let (v := AV.agg [iv a18.x, iv a18.y, iv a18.t]) ((Tab.enc h7 s_.points).ld hm21 true 3 0) ?_
    refine sim_box O8 (cs := [iv 0, iv 0, iv 0]) (by first | rfl | simp) (fun o22 h23 O24 => ?_)
    replace O24 : Hold B h23 [(AV.ptr o1 1 0 0, .pt 1 [Sl.enc s_.points]), (AV.ptr o22 1 0 0, .pt 3 [iv 0, iv 0, iv 0])] := O24
    refine sim_store O24 1 (cs' := [iv a18.x, iv a18.y, iv a18.t]) rfl (by first | rfl | simp) (by simp) (by first | rfl | simp) (by first | rfl | simp [splice]) (fun h26 O27 => ?_)
    replace O27 : Hold B h26 [(AV.ptr o1 1 0 0, .pt 1 [Sl.enc s_.points]), (AV.ptr o22 1 0 0, .pt 3 [iv a18.x, iv a18.y, iv a18.t])] := O27
    refine sim_let (v := AV.ptr o1 1 0 0) rfl ?_
    refine sim_let (v := Sl.enc s_.points) (O27.ld 0 rfl false 1 0) ?_
    refine sim_let (v := iv (wr (w10 + 1))) (aBin_add _ _) ?_
    refine sim_let (v := AV.ptr o1 1 0 0) rfl ?_
    refine sim_let (v := Sl.enc s_.points) (O27.ld 0 rfl false 1 0) ?_
    refine sim_let (v := iv (((s_.points.getD []).length : Nat) : Int)) (Tab.enc h26 s_.points).len ?_
    refine sim_rem (fun q28 => ?_)
    refine sim_get (Tab.enc h26 s_.points) (fun m30 a29 hi31 hm32 => ?_)
    refine sim_let (v := AV.agg [iv a29.x, iv a29.y, iv a29.t]) ((Tab.enc h26 s_.points).ld hm32 true 3 0) ?_
    refine sim_box O27 (cs := [iv 0, iv 0, iv 0]) (by first | rfl | simp) (fun o33 h34 O35 => ?_)
    replace O35 : Hold B h34 [(AV.ptr o1 1 0 0, .pt 1 [Sl.enc s_.points]), (AV.ptr o22 1 0 0, .pt 3 [iv a18.x, iv a18.y, iv a18.t]), (AV.ptr o33 1 0 0, .pt 3 [iv 0, iv 0, iv 0])] := O35
    refine sim_store O35 2 (cs' := [iv a29.x, iv a29.y, iv a29.t]) rfl (by first | rfl | simp) (by simp) (by first | rfl | simp) (by first | rfl | simp [splice]) (fun h37 O38 => ?_)
    replace O38 : Hold B h37 [(AV.ptr o1 1 0 0, .pt 1 [Sl.enc s_.points]), (AV.ptr o22 1 0 0, .pt 3 [iv a18.x, iv a18.y, iv a18.t]), (AV.ptr o33 1 0 0, .pt 3 [iv a29.x, iv a29.y, iv a29.t])] := O38
    refine sim_let (v := AV.ptr o22 1 0 0) rfl ?_
    refine sim_let (v := iv a18.x) (O38.ld 1 rfl false 1 0) ?_
    refine sim_let (v := AV.ptr o33 1 0 1) rfl ?_
    refine sim_let (v := iv a29.y) (O38.ld 2 rfl false 1 1) ?_
    refine sim_let (v := iv (wr (a18.x * a29.y))) (aBin_mul _ _) ?_
    refine sim_let (v := AV.ptr o22 1 0 1) rfl ?_
    refine sim_let (v := iv a18.y) (O38.ld 1 rfl false 1 1) ?_
    refine sim_let (v := AV.ptr o33 1 0 0) rfl ?_
    refine sim_let (v := iv a29.x) (O38.ld 2 rfl false 1 0) ?_
    refine sim_let (v := iv (wr (a18.y * a29.x))) (aBin_mul _ _) ?_
    refine sim_let (v := iv (wr ((wr (a18.x * a29.y)) - (wr (a18.y * a29.x))))) (aBin_sub _ _) ?_
    refine sim_let (v := iv (wr (w9 + (wr ((wr (a18.x * a29.y)) - (wr (a18.y * a29.x))))))) (aBin_add _ _) ?_
    refine sim_let (v := iv (wr (w10 + 1))) (aBin_add _ _) ?_
    have O39 : Hold B h37 [(AV.ptr o1 1 0 0, .pt 1 [Sl.enc s_.points])] := O38.sel [0] (by decide) rfl
    exact sim_ret ⟨rfl, rfl, O39⟩
  · exact sim_ret ⟨nofun, _, _, _, _, rfl, O8⟩
theorem ts_impl_StrokeArea (env : Nat → Contract) (he_impl_ValidStroke : env n_impl_ValidStroke = .pure (C1 (fun c : Bool => enc c) t_impl_ValidStroke)) (s_ : Stroke) : Sim (denFn Try.prog env n_impl_StrokeArea [AV.agg [Sl.enc s_.points]] []) (t_impl_StrokeArea s_) fun c p => release p.2 depth p.1 = some ((fun c : Int × Int => AV.tup [enc c.1, enc c.2]) c) := by
  have O := Hold.nil []
  generalize hB : (⟨[], []⟩ : Base) = B at O
  clear hB
  rw [e_impl_StrokeArea]
  unfold t_impl_StrokeArea
  refine sim_box O (cs := [Sl.enc s_.points]) (by first | rfl | simp) (fun o1 h2 O3 => ?_)
  replace O3 : Hold B h2 [(AV.ptr o1 1 0 0, .pt 1 [Sl.enc s_.points])] := O3
  refine sim_let (v := AV.agg [Sl.enc s_.points]) (O3.ld 0 rfl true 1 0) ?_
  refine sim_call1 he_impl_ValidStroke (snapD_nr _ s_ rfl) (fun c5 => ?_)
  refine sim_let2 (hand_plain (by rfl) _ _) ?_
  refine sim_let (v := bv (!c5)) (aUn_not _) ?_
  refine sim_cond (fun c6 => ?_) (fun c6 => ?_)
  · exact sim_ret (release_plain (by rfl) _)
  · refine sim_let (v := AV.ptr o1 1 0 0) rfl ?_
    refine sim_let (v := Sl.enc s_.points) (O3.ld 0 rfl false 1 0) ?_
    refine sim_let (v := iv (((s_.points.getD []).length : Nat) : Int)) (Tab.enc h2 s_.points).len ?_
    refine sim_bind ((tl0_impl_StrokeArea env he_impl_ValidStroke s_ o1 c5) ⟨rfl, O3⟩) (fun qq42 r hq => ?_)
    revert hq
    revert qq42
    intro q13 hq
    obtain ⟨z14, z15, z16, h11, rfl, O12⟩ := hq
    rw [e_lk0x0_impl_StrokeArea]
    exact sim_ret (release_plain (by rfl) _)
theorem tt_impl_StrokeArea : PureOK Try.prog n_impl_StrokeArea (C1 (fun c : Int × Int => AV.tup [enc c.1, enc c.2]) t_impl_StrokeArea) := pureC1 (Econs tt_impl_ValidStroke E0) mixed hb_impl_StrokeArea fun s_ => ts_impl_StrokeArea _ (by simp [envL]) s_

def s0_spec_l05Area (list_ : Sl Point) : (Int × Int) → Option (Sum (Int × Int) Int) := fun (w3, w4) =>
  bif decide (w4 < (((list_.getD []).length : Nat) : Int)) then
    obind (getI (list_.getD []) w4) fun a12 =>
    obind (remI (wr (w4 + 1)) (((list_.getD []).length : Nat) : Int)) fun q22 =>
    obind (getI (list_.getD []) q22) fun a23 =>
    some (.inl (wr (w3 + (wr ((wr (a12.x * a23.y)) - (wr (a12.y * a23.x))))), wr (w4 + 1)))
  else
    some (.inr w3)
def t_spec_l05Area (list_ : Sl Point) : Option Int :=
  obind (loopT (s0_spec_l05Area list_) (0, 0)) fun q7 =>
  some q7

theorem tl0_spec_l05Area (env : Nat → Contract) {B : Base}  (list_ : Sl Point)  {st : Int × Int} {tm : TM} {h : Heap} (R : (fun (st : Int × Int) tm h1 => match st with | (w3, w4) => tm = [Sl.enc list_, und, iv 0, iv w3, iv w4, AV.top, AV.top, AV.top, AV.top, AV.top, AV.top, AV.top, AV.top, AV.top, AV.top, AV.top, AV.top, AV.top, AV.top, AV.top, AV.top, AV.top, AV.top, AV.top, AV.top, AV.top, AV.top, AV.top, AV.top, AV.top, AV.top, AV.top, AV.top, AV.top, AV.top, AV.top, AV.top, AV.top, und] ∧ Hold B h1 []) st tm h) : Sim (loopP hm0_spec_l05Area xm0_spec_l05Area (lb0_spec_l05Area env) tm h) (loopT (s0_spec_l05Area list_) st) (fun (q : Int) (r : Res) => match q with | q7 => ∃ (q8 : Int) (z9 : AV) (z10 : AV) (h5 : Heap), r = (.exit 0, [Sl.enc list_, und, iv 0, iv q7, iv q8, z9, z10, AV.top, AV.top, AV.top, AV.top, AV.top, AV.top, AV.top, AV.top, AV.top, AV.top, AV.top, AV.top, AV.top, AV.top, AV.top, AV.top, AV.top, AV.top, AV.top, AV.top, AV.top, AV.top, AV.top, AV.top, AV.top, AV.top, AV.top, AV.top, AV.top, AV.top, AV.top, und], h5) ∧ Hold B h5 []) := by
  refine loop_sim (Rel := fun (st : Int × Int) tm h1 => match st with | (w3, w4) => tm = [Sl.enc list_, und, iv 0, iv w3, iv w4, AV.top, AV.top, AV.top, AV.top, AV.top, AV.top, AV.top, AV.top, AV.top, AV.top, AV.top, AV.top, AV.top, AV.top, AV.top, AV.top, AV.top, AV.top, AV.top, AV.top, AV.top, AV.top, AV.top, AV.top, AV.top, AV.top, AV.top, AV.top, AV.top, AV.top, AV.top, AV.top, AV.top, und] ∧ Hold B h1 []) (fun st tm h1 R => ?_) R
  obtain ⟨w3, w4⟩ := st
  obtain ⟨rfl, O2⟩ := R
  rw [e_lb0_spec_l05Area]
  unfold s0_spec_l05Area
  dsimp only
  refine sim_let (v := iv (((list_.getD []).length : Nat) : Int)) (Tab.enc h1 list_).len ?_
  refine sim_let (v := bv (decide (w4 < (((list_.getD []).length : Nat) : Int)))) (aBin_lss _ _) ?_
  refine sim_cond (fun c11 => ?_) (fun c11 => ?_)
  · refine sim_get (Tab.enc h1 list_) (fun m13 a12 hi14 hm15 => ?_)
    refine sim_let (v := AV.agg [iv a12.x, iv a12.y, iv a12.t]) ((Tab.enc h1 list_).ld hm15 true 3 0) ?_
    refine sim_box O2 (cs := [iv 0, iv 0, iv 0]) (by first | rfl | simp) (fun o16 h17 O18 => ?_)
    replace O18 : Hold B h17 [(AV.ptr o16 1 0 0, .pt 3 [iv 0, iv 0, iv 0])] := O18
    refine sim_store O18 0 (cs' := [iv a12.x, iv a12.y, iv a12.t]) rfl (by first | rfl | simp) (by simp) (by first | rfl | simp) (by first | rfl | simp [splice]) (fun h20 O21 => ?_)
    replace O21 : Hold B h20 [(AV.ptr o16 1 0 0, .pt 3 [iv a12.x, iv a12.y, iv a12.t])] := O21
    refine sim_let (v := iv (wr (w4 + 1))) (aBin_add _ _) ?_
    refine sim_let (v := iv (((list_.getD []).length : Nat) : Int)) (Tab.enc h20 list_).len ?_
    refine sim_rem (fun q22 => ?_)
    refine sim_get (Tab.enc h20 list_) (fun m24 a23 hi25 hm26 => ?_)
    refine sim_let (v := AV.agg [iv a23.x, iv a23.y, iv a23.t]) ((Tab.enc h20 list_).ld hm26 true 3 0) ?_
    refine sim_box O21 (cs := [iv 0, iv 0, iv 0]) (by first | rfl | simp) (fun o27 h28 O29 => ?_)
    replace O29 : Hold B h28 [(AV.ptr o16 1 0 0, .pt 3 [iv a12.x, iv a12.y, iv a12.t]), (AV.ptr o27 1 0 0, .pt 3 [iv 0, iv 0, iv 0])] := O29
    refine sim_store O29 1 (cs' := [iv a23.x, iv a23.y, iv a23.t]) rfl (by first | rfl | simp) (by simp) (by first | rfl | simp) (by first | rfl | simp [splice]) (fun h31 O32 => ?_)
    replace O32 : Hold B h31 [(AV.ptr o16 1 0 0, .pt 3 [iv a12.x, iv a12.y, iv a12.t]), (AV.ptr o27 1 0 0, .pt 3 [iv a23.x, iv a23.y, iv a23.t])] := O32
    refine sim_let (v := AV.ptr o16 1 0 0) rfl ?_
    refine sim_let (v := iv a12.x) (O32.ld 0 rfl false 1 0) ?_
    refine sim_let (v := AV.ptr o27 1 0 1) rfl ?_
    refine sim_let (v := iv a23.y) (O32.ld 1 rfl false 1 1) ?_
    refine sim_let (v := iv (wr (a12.x * a23.y))) (aBin_mul _ _) ?_
    refine sim_let (v := AV.ptr o16 1 0 1) rfl ?_
    refine sim_let (v := iv a12.y) (O32.ld 0 rfl false 1 1) ?_
    refine sim_let (v := AV.ptr o27 1 0 0) rfl ?_
    refine sim_let (v := iv a23.x) (O32.ld 1 rfl false 1 0) ?_
    refine sim_let (v := iv (wr (a12.y * a23.x))) (aBin_mul _ _) ?_
    refine sim_let (v := iv (wr ((wr (a12.x * a23.y)) - (wr (a12.y * a23.x))))) (aBin_sub _ _) ?_
    refine sim_let (v := iv (wr (w3 + (wr ((wr (a12.x * a23.y)) - (wr (a12.y * a23.x))))))) (aBin_add _ _) ?_
    refine sim_let (v := iv (wr (w4 + 1))) (aBin_add _ _) ?_
    have O33 : Hold B h31 [] := O32.sel [] (by decide) rfl
    exact sim_ret ⟨rfl, rfl, O33⟩
  · exact sim_ret ⟨nofun, _, _, _, _, rfl, O2⟩
theorem ts_spec_l05Area (env : Nat → Contract)  (list_ : Sl Point) : Sim (denFn Try.prog env n_spec_l05Area [Sl.enc list_] []) (t_spec_l05Area list_) fun c p => release p.2 depth p.1 = some ((fun c : Int => enc c) c) := by
  have O := Hold.nil []
  generalize hB : (⟨[], []⟩ : Base) = B at O
  clear hB
  rw [e_spec_l05Area]
  unfold t_spec_l05Area
  refine sim_bind ((tl0_spec_l05Area env list_) ⟨rfl, O⟩) (fun qq36 r hq => ?_)
  revert hq
  revert qq36
  intro q7 hq
  obtain ⟨q8, z9, z10, h5, rfl, O6⟩ := hq
  rw [e_lk0x0_spec_l05Area]
  exact sim_ret (release_plain (by rfl) _)
theorem tt_spec_l05Area : PureOK Try.prog n_spec_l05Area (C1 (fun c : Int => enc c) t_spec_l05Area) := pureC1 E0 mixed hb_spec_l05Area fun list_ => ts_spec_l05Area _  list_

def t_spec_StrokeArea (s_ : Stroke) : Option (Int × Int) :=
  obind (t_spec_l02Stroke s_) fun c5 =>
  bif !c5 then
    some (0, 1)
  else
    obind (t_spec_l05Area s_.points) fun c7 =>
    some (c7, 0)

theorem ts_spec_StrokeArea (env : Nat → Contract) (he_spec_l02Stroke : env n_spec_l02Stroke = .pure (C1 (fun c : Bool => enc c) tp_spec_l02Stroke)) (he_spec_l05Area : env n_spec_l05Area = .pure (C1 (fun c : Int => enc c) t_spec_l05Area)) (s_ : Stroke) : Sim (denFn Try.prog env n_spec_StrokeArea [AV.agg [Sl.enc s_.points]] []) (t_spec_StrokeArea s_) fun c p => release p.2 depth p.1 = some ((fun c : Int × Int => AV.tup [enc c.1, enc c.2]) c) := by
  have O := Hold.nil []
  generalize hB : (⟨[], []⟩ : Base) = B at O
  clear hB
  rw [e_spec_StrokeArea]
  unfold t_spec_StrokeArea
  refine sim_box O (cs := [Sl.enc s_.points]) (by first | rfl | simp) (fun o1 h2 O3 => ?_)
  replace O3 : Hold B h2 [(AV.ptr o1 1 0 0, .pt 1 [Sl.enc s_.points])] := O3
  refine sim_eqO (y' := tp_spec_l02Stroke ⟨[s_], 0⟩) (by simp only [tp_spec_l02Stroke, get_pt1, obind_sm]) ?_
  refine sim_call1 he_spec_l02Stroke (O3.snapRn 0 rfl s_ rfl rfl) (fun c5 => ?_)
  refine sim_let2 (hand_plain (by rfl) _ _) ?_
  refine sim_let (v := bv (!c5)) (aUn_not _) ?_
  refine sim_cond (fun c6 => ?_) (fun c6 => ?_)
  · exact sim_ret (release_plain (by rfl) _)
  · refine sim_let (v := AV.ptr o1 1 0 0) rfl ?_
    refine sim_let (v := Sl.enc s_.points) (O3.ld 0 rfl false 1 0) ?_
    refine sim_call1 he_spec_l05Area (snapD_enc _ _) (fun c7 => ?_)
    refine sim_let2 (hand_plain (by rfl) _ _) ?_
    exact sim_ret (release_plain (by rfl) _)
theorem tt_spec_StrokeArea : PureOK Try.prog n_spec_StrokeArea (C1 (fun c : Int × Int => AV.tup [enc c.1, enc c.2]) t_spec_StrokeArea) := pureC1 (Econs tt_spec_l02Stroke (Econs tt_spec_l05Area E0)) mixed hb_spec_StrokeArea fun s_ => ts_spec_StrokeArea _ (by simp [envL]) (by simp [envL]) s_

def t_spec_DrawNearestPoint (code_ : Sl UInt8) : Option (Stroke × Point) :=
  obind (t_spec_l05Stroke (⟨code_, 0, 0⟩ : l00Src)) fun c13 =>
  obind (t_spec_l05DrawPoint c13.2) fun c27 =>
  some (c13.1, c27.1)

theorem ts_spec_DrawNearestPoint (env : Nat → Contract) (he_spec_l00From : env n_spec_l00From = .pure (C1 fromA (fun q : Sl UInt8 => some q))) (he_spec_l05DrawPoint : env n_spec_l05DrawPoint = .gen (denFn Try.prog ev_spec_l05DrawPoint n_spec_l05DrawPoint)) (he_spec_l05Stroke : env n_spec_l05Stroke = .gen (denFn Try.prog ev_spec_l05Stroke n_spec_l05Stroke)) (code_ : Sl UInt8) : Sim (denFnM true Try.prog env n_spec_DrawNearestPoint [Sl.enc code_] []) (t_spec_DrawNearestPoint code_) fun c p => release p.2 depth p.1 = some ((fun c : Stroke × Point => AV.tup [AV.agg [rS c.1.points], enc c.2]) c) := by
  have O := Hold.nil []
  generalize hB : (⟨[], []⟩ : Base) = B at O
  clear hB
  rw [e_spec_DrawNearestPoint]
  unfold t_spec_DrawNearestPoint
  refine sim_box O (cs := [nilS]) (by first | rfl | simp) (fun o1 h2 O3 => ?_)
  replace O3 : Hold B h2 [(AV.ptr o1 1 0 0, .pt 1 [nilS])] := O3
  refine sim_box O3 (cs := [iv 0, iv 0, iv 0]) (by first | rfl | simp) (fun o5 h6 O7 => ?_)
  replace O7 : Hold B h6 [(AV.ptr o1 1 0 0, .pt 1 [nilS]), (AV.ptr o5 1 0 0, .pt 3 [iv 0, iv 0, iv 0])] := O7
  refine sim_src O7 he_spec_l00From (snapD_enc _ _) (by first | rfl | exact noRef_enc _) (fun o9 h10 O11 => ?_)
  replace O11 : Hold B h10 [(AV.ptr o1 1 0 0, .pt 1 [nilS]), (AV.ptr o5 1 0 0, .pt 3 [iv 0, iv 0, iv 0]), (AV.ptr o9 1 0 0, .pt 3 [Sl.enc code_, iv 0, AV.sc (.int .u64 0)])] := O11
  refine sim_gen he_spec_l05Stroke (tg_spec_l05Stroke (⟨code_, 0, 0⟩ : l00Src) (O11.start (i := 2) rfl rfl)) (fun c13 v14 h15 hq16 => ?_)
  obtain ⟨x19, e_v14, O17⟩ := hq16
  dsimp only at e_v14
  subst v14
  have O18 : Hold B h15 [(AV.ptr o1 1 0 0, .pt 1 [nilS]), (AV.ptr o5 1 0 0, .pt 3 [iv 0, iv 0, iv 0]), (AV.ptr o9 1 0 0, .pt 3 [Sl.enc c13.2.code, iv c13.2.pos, AV.sc (.int .u64 c13.2.seed)]), (x19, obS (c13.1.points : Sl Point))] := O11.merge (i := 2) rfl rfl O17
  refine sim_box O18 (cs := [nilS]) (by first | rfl | simp) (fun o21 h22 O23 => ?_)
  replace O23 : Hold B h22 [(AV.ptr o1 1 0 0, .pt 1 [nilS]), (AV.ptr o5 1 0 0, .pt 3 [iv 0, iv 0, iv 0]), (AV.ptr o9 1 0 0, .pt 3 [Sl.enc c13.2.code, iv c13.2.pos, AV.sc (.int .u64 c13.2.seed)]), (x19, obS (c13.1.points : Sl Point)), (AV.ptr o21 1 0 0, .pt 1 [nilS])] := O23
  refine sim_store O23 4 (cs' := [x19]) rfl (by first | rfl | simp [(O23.one (A := Point) (s := c13.1.points) 3 rfl).1, (O23.one (A := Point) (s := c13.1.points) 3 rfl).2]) (by simp) (by first | rfl | simp [(O23.one (A := Point) (s := c13.1.points) 3 rfl).1, (O23.one (A := Point) (s := c13.1.points) 3 rfl).2]) (by first | rfl | simp [splice, (O23.one (A := Point) (s := c13.1.points) 3 rfl).1, (O23.one (A := Point) (s := c13.1.points) 3 rfl).2]) (fun h25 O26 => ?_)
  replace O26 : Hold B h25 [(AV.ptr o1 1 0 0, .pt 1 [nilS]), (AV.ptr o5 1 0 0, .pt 3 [iv 0, iv 0, iv 0]), (AV.ptr o9 1 0 0, .pt 3 [Sl.enc c13.2.code, iv c13.2.pos, AV.sc (.int .u64 c13.2.seed)]), (x19, obS (c13.1.points : Sl Point)), (AV.ptr o21 1 0 0, .pt 1 [x19])] := O26
  refine sim_let (v := AV.agg [x19]) (O26.ld 4 rfl true 1 0) ?_
  refine sim_gen he_spec_l05DrawPoint (tg_spec_l05DrawPoint c13.2 (O26.start (i := 2) rfl rfl)) (fun c27 v28 h29 hq30 => ?_)
  obtain ⟨e_v28, O31⟩ := hq30
  dsimp only at e_v28
  subst v28
  have O32 : Hold B h29 [(AV.ptr o1 1 0 0, .pt 1 [nilS]), (AV.ptr o5 1 0 0, .pt 3 [iv 0, iv 0, iv 0]), (AV.ptr o9 1 0 0, .pt 3 [Sl.enc c27.2.code, iv c27.2.pos, AV.sc (.int .u64 c27.2.seed)]), (x19, obS (c13.1.points : Sl Point)), (AV.ptr o21 1 0 0, .pt 1 [x19])] := O26.merge (i := 2) rfl rfl O31
  refine sim_guardP O31.len ?_
  refine sim_store O32 0 (cs' := [x19]) rfl (by first | rfl | simp [(O32.one (A := Point) (s := c13.1.points) 3 rfl).1, (O32.one (A := Point) (s := c13.1.points) 3 rfl).2]) (by simp) (by first | rfl | simp [(O32.one (A := Point) (s := c13.1.points) 3 rfl).1, (O32.one (A := Point) (s := c13.1.points) 3 rfl).2]) (by first | rfl | simp [splice, (O32.one (A := Point) (s := c13.1.points) 3 rfl).1, (O32.one (A := Point) (s := c13.1.points) 3 rfl).2]) (fun h33 O34 => ?_)
  replace O34 : Hold B h33 [(AV.ptr o1 1 0 0, .pt 1 [x19]), (AV.ptr o5 1 0 0, .pt 3 [iv 0, iv 0, iv 0]), (AV.ptr o9 1 0 0, .pt 3 [Sl.enc c27.2.code, iv c27.2.pos, AV.sc (.int .u64 c27.2.seed)]), (x19, obS (c13.1.points : Sl Point)), (AV.ptr o21 1 0 0, .pt 1 [x19])] := O34
  refine sim_store O34 1 (cs' := [iv c27.1.x, iv c27.1.y, iv c27.1.t]) rfl (by first | rfl | simp) (by simp) (by first | rfl | simp) (by first | rfl | simp [splice]) (fun h35 O36 => ?_)
  replace O36 : Hold B h35 [(AV.ptr o1 1 0 0, .pt 1 [x19]), (AV.ptr o5 1 0 0, .pt 3 [iv c27.1.x, iv c27.1.y, iv c27.1.t]), (AV.ptr o9 1 0 0, .pt 3 [Sl.enc c27.2.code, iv c27.2.pos, AV.sc (.int .u64 c27.2.seed)]), (x19, obS (c13.1.points : Sl Point)), (AV.ptr o21 1 0 0, .pt 1 [x19])] := O36
  refine sim_guardP ⟨⟨(at_of (v := AV.agg [x19]) (O26.ld 4 rfl true 1 0)), ⟨(at_of (v := AV.agg [x19]) (O32.ld 4 rfl true 1 0)), ⟨(at_of (v := AV.agg [x19]) (O34.ld 4 rfl true 1 0)), ⟨(at_of (v := AV.agg [x19]) (O36.ld 4 rfl true 1 0)), trivial⟩⟩⟩⟩, trivial⟩ ?_
  refine sim_retL (resL_c (v := AV.agg [x19]) (O36.ld 0 rfl true 1 0) (resL_c (v := AV.agg [iv c27.1.x, iv c27.1.y, iv c27.1.t]) (O36.ld 1 rfl true 3 0) (resL_nil _))) ?_
  dsimp only [pack]
  have O37 : Hold B h35 [(x19, obS (c13.1.points : Sl Point))] := O36.sel [3] (by decide) rfl
  exact sim_ret (release_of (by simp only [ids_tup, ids_aggD, ids_agg, ids_iv, ids_bv, ids_sv, ids_bt, ids_nilS, ids_enc, O37.idsD (A := Point) (s := c13.1.points) 0 rfl, List.map_append, List.map_nil, List.flatMap_cons, List.flatMap_nil, List.append_nil, List.nil_append]; simpa only [List.flatMap_cons, List.flatMap_nil, List.append_nil, List.nil_append] using O37.nd2) (by simp only [rel_tup, rel_aggD, rel_agg, rel_iv, rel_bv, rel_sv, rel_bt, rel_nilS, rel_enc, O37.relD (A := Point) (s := c13.1.points) 0 rfl, omapc, omapn, obind_sm] <;> rfl))
theorem tt_spec_DrawNearestPoint : PureOK Try.prog n_spec_DrawNearestPoint (C1 (fun c : Stroke × Point => AV.tup [AV.agg [rS c.1.points], enc c.2]) t_spec_DrawNearestPoint) := pureCW1 (Econs tt_spec_l00From (EconsG (gen_of_den eo_spec_l05DrawPoint mixed hb_spec_l05DrawPoint) (EconsG (gen_of_den eo_spec_l05Stroke mixed hb_spec_l05Stroke) E0))) mixed hb_spec_DrawNearestPoint fun code_ => ts_spec_DrawNearestPoint _ (by simp [envL]) (by simp [envL]) (by simp [envL]) code_

def s0_impl_NearestPoint (s_ : Stroke) (p_ : Point) : (Int × Int) → Option (Sum (Int × Int) Int) := fun (w16, w17) =>
  bif decide (w17 < (((s_.points.getD []).length : Nat) : Int)) then
    obind (getI (s_.points.getD []) w17) fun a24 =>
    obind (t_impl_squared p_ a24) fun c34 =>
    obind (getI (s_.points.getD []) w16) fun a35 =>
    obind (t_impl_squared p_ a35) fun c39 =>
    bif decide (c34 < c39) then
      some (.inl (w17, wr (w17 + 1)))
    else
      some (.inl (w16, wr (w17 + 1)))
  else
    some (.inr w16)
def t_impl_NearestPoint (s_ : Stroke) (p_ : Point) : Option (Int × Int) :=
  obind (t_impl_ValidStroke s_) fun c9 =>
  obind (bif !c9 then some false else (obind (t_impl_validPoint p_) fun c11 => some (!c11))) fun c12 =>
  bif (bif !c9 then true else c12) then
    some (0, 1)
  else
    obind (loopT (s0_impl_NearestPoint s_ p_) (0, 0)) fun q20 =>
    some (q20, 0)

theorem tl0_impl_NearestPoint (env : Nat → Contract) {B : Base} (he_impl_ValidStroke : env n_impl_ValidStroke = .pure (C1 (fun c : Bool => enc c) t_impl_ValidStroke)) (he_impl_squared : env n_impl_squared = .pure (C2 (fun c : Int => enc c) t_impl_squared)) (he_impl_validPoint : env n_impl_validPoint = .pure (C1 (fun c : Bool => enc c) t_impl_validPoint)) (s_ : Stroke) (p_ : Point) (o1 : Nat) (o5 : Nat) (c9 : Bool) (c12 : Bool)  {st : Int × Int} {tm : TM} {h : Heap} (R : (fun (st : Int × Int) tm h14 => match st with | (w16, w17) => tm = [AV.agg [Sl.enc s_.points], AV.agg [iv p_.x, iv p_.y, iv p_.t], AV.ptr o1 1 0 0, AV.ptr o5 1 0 0, iv 0, iv 0, iv w16, AV.top, AV.top, AV.agg [Sl.enc s_.points], bv c9, bv (!c9), bv (!c9), AV.top, AV.top, cond (!c9) und (bv c12), bv (bif !c9 then true else c12), AV.ptr o1 1 0 0, Sl.enc s_.points, iv (((s_.points.getD []).length : Nat) : Int), iv w17, AV.top, AV.top, AV.top, AV.top, AV.top, AV.top, AV.top, AV.top, AV.top, AV.top, AV.top, AV.top, AV.top, AV.top, AV.top, AV.top, AV.top, und] ∧ Hold B h14 [(AV.ptr o1 1 0 0, .pt 1 [Sl.enc s_.points]), (AV.ptr o5 1 0 0, .pt 3 [iv p_.x, iv p_.y, iv p_.t])]) st tm h) : Sim (loopP hm0_impl_NearestPoint xm0_impl_NearestPoint (lb0_impl_NearestPoint env) tm h) (loopT (s0_impl_NearestPoint s_ p_) st) (fun (q : Int) (r : Res) => match q with | q20 => ∃ (z21 : AV) (z22 : AV) (h18 : Heap), r = (.exit 0, [AV.agg [Sl.enc s_.points], AV.agg [iv p_.x, iv p_.y, iv p_.t], AV.ptr o1 1 0 0, AV.ptr o5 1 0 0, iv 0, iv 0, iv q20, z21, z22, AV.agg [Sl.enc s_.points], bv c9, bv (!c9), bv (!c9), AV.top, AV.top, cond (!c9) und (bv c12), bv (bif !c9 then true else c12), AV.ptr o1 1 0 0, Sl.enc s_.points, iv (((s_.points.getD []).length : Nat) : Int), AV.top, AV.top, AV.top, AV.top, AV.top, AV.top, AV.top, AV.top, AV.top, AV.top, AV.top, AV.top, AV.top, AV.top, AV.top, AV.top, AV.top, AV.top, und], h18) ∧ Hold B h18 [(AV.ptr o1 1 0 0, .pt 1 [Sl.enc s_.points]), (AV.ptr o5 1 0 0, .pt 3 [iv p_.x, iv p_.y, iv p_.t])]) := by
  refine loop_sim (Rel := fun (st : Int × Int) tm h14 => match st with | (w16, w17) => tm = [AV.agg [Sl.enc s_.points], AV.agg [iv p_.x, iv p_.y, iv p_.t], AV.ptr o1 1 0 0, AV.ptr o5 1 0 0, iv 0, iv 0, iv w16, AV.top, AV.top, AV.agg [Sl.enc s_.points], bv c9, bv (!c9), bv (!c9), AV.top, AV.top, cond (!c9) und (bv c12), bv (bif !c9 then true else c12), AV.ptr o1 1 0 0, Sl.enc s_.points, iv (((s_.points.getD []).length : Nat) : Int), iv w17, AV.top, AV.top, AV.top, AV.top, AV.top, AV.top, AV.top, AV.top, AV.top, AV.top, AV.top, AV.top, AV.top, AV.top, AV.top, AV.top, AV.top, und] ∧ Hold B h14 [(AV.ptr o1 1 0 0, .pt 1 [Sl.enc s_.points]), (AV.ptr o5 1 0 0, .pt 3 [iv p_.x, iv p_.y, iv p_.t])]) (fun st tm h14 R => ?_) R
  obtain ⟨w16, w17⟩ := st
  obtain ⟨rfl, O15⟩ := R
  rw [e_lb0_impl_NearestPoint]
  unfold s0_impl_NearestPoint
  dsimp only
  refine sim_let (v := bv (decide (w17 < (((s_.points.getD []).length : Nat) : Int)))) (aBin_lss _ _) ?_
  refine sim_cond (fun c23 => ?_) (fun c23 => ?_)
  · refine sim_get (Tab.enc h14 s_.points) (fun m25 a24 hi26 hm27 => ?_)
    refine sim_let (v := AV.agg [iv a24.x, iv a24.y, iv a24.t]) ((Tab.enc h14 s_.points).ld hm27 true 3 0) ?_
    refine sim_box O15 (cs := [iv 0, iv 0, iv 0]) (by first | rfl | simp) (fun o28 h29 O30 => ?_)
    replace O30 : Hold B h29 [(AV.ptr o1 1 0 0, .pt 1 [Sl.enc s_.points]), (AV.ptr o5 1 0 0, .pt 3 [iv p_.x, iv p_.y, iv p_.t]), (AV.ptr o28 1 0 0, .pt 3 [iv 0, iv 0, iv 0])] := O30
    refine sim_store O30 2 (cs' := [iv a24.x, iv a24.y, iv a24.t]) rfl (by first | rfl | simp) (by simp) (by first | rfl | simp) (by first | rfl | simp [splice]) (fun h32 O33 => ?_)
    replace O33 : Hold B h32 [(AV.ptr o1 1 0 0, .pt 1 [Sl.enc s_.points]), (AV.ptr o5 1 0 0, .pt 3 [iv p_.x, iv p_.y, iv p_.t]), (AV.ptr o28 1 0 0, .pt 3 [iv a24.x, iv a24.y, iv a24.t])] := O33
    refine sim_let (v := AV.agg [iv p_.x, iv p_.y, iv p_.t]) (O33.ld 1 rfl true 3 0) ?_
    refine sim_let (v := AV.agg [iv a24.x, iv a24.y, iv a24.t]) (O33.ld 2 rfl true 3 0) ?_
    refine sim_callQ2 he_impl_squared (snapD_nr _ p_ rfl) (snapD_nr _ a24 rfl) (fun c34 => ?_)
    refine sim_let2 (hand_plain (by rfl) _ _) ?_
    refine sim_let (v := AV.agg [iv p_.x, iv p_.y, iv p_.t]) (O33.ld 1 rfl true 3 0) ?_
    refine sim_let (v := AV.ptr o1 1 0 0) rfl ?_
    refine sim_let (v := Sl.enc s_.points) (O33.ld 0 rfl false 1 0) ?_
    refine sim_get (Tab.enc h32 s_.points) (fun m36 a35 hi37 hm38 => ?_)
    refine sim_let (v := AV.agg [iv a35.x, iv a35.y, iv a35.t]) ((Tab.enc h32 s_.points).ld hm38 true 3 0) ?_
    refine sim_callQ2 he_impl_squared (snapD_nr _ p_ rfl) (snapD_nr _ a35 rfl) (fun c39 => ?_)
    refine sim_let2 (hand_plain (by rfl) _ _) ?_
    refine sim_let (v := bv (decide (c34 < c39))) (aBin_lss _ _) ?_
    refine sim_cond (fun c40 => ?_) (fun c40 => ?_)
    · refine sim_let (v := iv (wr (w17 + 1))) (aBin_add _ _) ?_
      have O41 : Hold B h32 [(AV.ptr o1 1 0 0, .pt 1 [Sl.enc s_.points]), (AV.ptr o5 1 0 0, .pt 3 [iv p_.x, iv p_.y, iv p_.t])] := O33.sel [0, 1] (by decide) rfl
      exact sim_ret ⟨rfl, rfl, O41⟩
    · refine sim_let (v := iv (wr (w17 + 1))) (aBin_add _ _) ?_
      have O42 : Hold B h32 [(AV.ptr o1 1 0 0, .pt 1 [Sl.enc s_.points]), (AV.ptr o5 1 0 0, .pt 3 [iv p_.x, iv p_.y, iv p_.t])] := O33.sel [0, 1] (by decide) rfl
      exact sim_ret ⟨rfl, rfl, O42⟩
  · exact sim_ret ⟨nofun, _, _, _, rfl, O15⟩
theorem ts_impl_NearestPoint (env : Nat → Contract) (he_impl_ValidStroke : env n_impl_ValidStroke = .pure (C1 (fun c : Bool => enc c) t_impl_ValidStroke)) (he_impl_squared : env n_impl_squared = .pure (C2 (fun c : Int => enc c) t_impl_squared)) (he_impl_validPoint : env n_impl_validPoint = .pure (C1 (fun c : Bool => enc c) t_impl_validPoint)) (s_ : Stroke) (p_ : Point) : Sim (denFn Try.prog env n_impl_NearestPoint [AV.agg [Sl.enc s_.points], AV.agg [iv p_.x, iv p_.y, iv p_.t]] []) (t_impl_NearestPoint s_ p_) fun c p => release p.2 depth p.1 = some ((fun c : Int × Int => AV.tup [enc c.1, enc c.2]) c) := by
  have O := Hold.nil []
  generalize hB : (⟨[], []⟩ : Base) = B at O
  clear hB
  rw [e_impl_NearestPoint]
  unfold t_impl_NearestPoint
  refine sim_box O (cs := [Sl.enc s_.points]) (by first | rfl | simp) (fun o1 h2 O3 => ?_)
  replace O3 : Hold B h2 [(AV.ptr o1 1 0 0, .pt 1 [Sl.enc s_.points])] := O3
  refine sim_box O3 (cs := [iv p_.x, iv p_.y, iv p_.t]) (by first | rfl | simp) (fun o5 h6 O7 => ?_)
  replace O7 : Hold B h6 [(AV.ptr o1 1 0 0, .pt 1 [Sl.enc s_.points]), (AV.ptr o5 1 0 0, .pt 3 [iv p_.x, iv p_.y, iv p_.t])] := O7
  refine sim_let (v := AV.agg [Sl.enc s_.points]) (O7.ld 0 rfl true 1 0) ?_
  refine sim_call1 he_impl_ValidStroke (snapD_nr _ s_ rfl) (fun c9 => ?_)
  refine sim_let2 (hand_plain (by rfl) _ _) ?_
  refine sim_let (v := bv (!c9)) (aUn_not _) ?_
  refine sim_guardF (e := bv) (fun hb10 => ?_) (fun c12 => ?_)
  · refine sim_let (v := AV.agg [iv p_.x, iv p_.y, iv p_.t]) (O7.ld 1 rfl true 3 0) ?_
    refine sim_call1 he_impl_validPoint (snapD_nr _ p_ rfl) (fun c11 => ?_)
    refine sim_let2 (hand_plain (by rfl) _ _) ?_
    refine sim_let (v := bv (!c11)) (aUn_not _) ?_
    exact sim_ret rfl
  · refine sim_let (v := bv (bif !c9 then true else c12)) (pick_b' _ _ _) ?_
    refine sim_cond (fun c13 => ?_) (fun c13 => ?_)
    · exact sim_ret (release_plain (by rfl) _)
    · refine sim_let (v := AV.ptr o1 1 0 0) rfl ?_
      refine sim_let (v := Sl.enc s_.points) (O7.ld 0 rfl false 1 0) ?_
      refine sim_let (v := iv (((s_.points.getD []).length : Nat) : Int)) (Tab.enc h6 s_.points).len ?_
      refine sim_bind ((tl0_impl_NearestPoint env he_impl_ValidStroke he_impl_squared he_impl_validPoint s_ p_ o1 o5 c9 c12) ⟨rfl, O7⟩) (fun qq45 r hq => ?_)
      revert hq
      revert qq45
      intro q20 hq
      obtain ⟨z21, z22, h18, rfl, O19⟩ := hq
      rw [e_lk0x0_impl_NearestPoint]
      exact sim_ret (release_plain (by rfl) _)
theorem tt_impl_NearestPoint : PureOK Try.prog n_impl_NearestPoint (C2 (fun c : Int × Int => AV.tup [enc c.1, enc c.2]) t_impl_NearestPoint) := pureC2 (Econs tt_impl_ValidStroke (Econs tt_impl_squared (Econs tt_impl_validPoint E0))) mixed hb_impl_NearestPoint fun s_ p_ => ts_impl_NearestPoint _ (by simp [envL]) (by simp [envL]) (by simp [envL]) s_ p_

def s0_spec_NearestPoint (s_ : Stroke) (p_ : Point) : (Int × Int) → Option (Sum (Int × Int) Int) := fun (w16, w17) =>
  bif decide (w17 < (((s_.points.getD []).length : Nat) : Int)) then
    obind (getI (s_.points.getD []) w17) fun a23 =>
    obind (t_spec_l05Far a23 p_) fun c27 =>
    obind (getI (s_.points.getD []) w16) fun a28 =>
    obind (t_spec_l05Far a28 p_) fun c32 =>
    bif decide (c27 < c32) then
      some (.inl (w17, wr (w17 + 1)))
    else
      some (.inl (w16, wr (w17 + 1)))
  else
    some (.inr w16)
def t_spec_NearestPoint (s_ : Stroke) (p_ : Point) : Option (Int × Int) :=
  obind (t_spec_l02Stroke s_) fun c9 =>
  obind (bif !c9 then some false else (obind (t_spec_l02Point p_) fun c11 => some (!c11))) fun c12 =>
  bif (bif !c9 then true else c12) then
    some (0, 1)
  else
    obind (loopT (s0_spec_NearestPoint s_ p_) (0, 1)) fun q20 =>
    some (q20, 0)

theorem tl0_spec_NearestPoint (env : Nat → Contract) {B : Base} (he_spec_l02Point : env n_spec_l02Point = .pure (C1 (fun c : Bool => enc c) t_spec_l02Point)) (he_spec_l02Stroke : env n_spec_l02Stroke = .pure (C1 (fun c : Bool => enc c) tp_spec_l02Stroke)) (he_spec_l05Far : env n_spec_l05Far = .pure (C2 (fun c : Int => enc c) t_spec_l05Far)) (s_ : Stroke) (p_ : Point) (o1 : Nat) (o5 : Nat) (c9 : Bool) (c12 : Bool)  {st : Int × Int} {tm : TM} {h : Heap} (R : (fun (st : Int × Int) tm h14 => match st with | (w16, w17) => tm = [AV.agg [Sl.enc s_.points], AV.agg [iv p_.x, iv p_.y, iv p_.t], AV.ptr o1 1 0 0, AV.ptr o5 1 0 0, iv 0, iv 0, iv w16, iv w17, bv c9, bv (!c9), bv (!c9), AV.top, AV.top, cond (!c9) und (bv c12), bv (bif !c9 then true else c12), AV.top, AV.top, AV.top, AV.top, AV.top, AV.top, AV.top, AV.top, AV.top, AV.top, AV.top, AV.top, AV.top, AV.top, AV.top, AV.top, AV.top, AV.top, AV.top, AV.top, AV.top, AV.top, AV.top, und] ∧ Hold B h14 [(AV.ptr o1 1 0 0, .pt 1 [Sl.enc s_.points]), (AV.ptr o5 1 0 0, .pt 3 [iv p_.x, iv p_.y, iv p_.t])]) st tm h) : Sim (loopP hm0_spec_NearestPoint xm0_spec_NearestPoint (lb0_spec_NearestPoint env) tm h) (loopT (s0_spec_NearestPoint s_ p_) st) (fun (q : Int) (r : Res) => match q with | q20 => ∃ (q21 : Int) (h18 : Heap), r = (.exit 0, [AV.agg [Sl.enc s_.points], AV.agg [iv p_.x, iv p_.y, iv p_.t], AV.ptr o1 1 0 0, AV.ptr o5 1 0 0, iv 0, iv 0, iv q20, iv q21, bv c9, bv (!c9), bv (!c9), AV.top, AV.top, cond (!c9) und (bv c12), bv (bif !c9 then true else c12), AV.top, AV.top, AV.top, AV.top, AV.top, AV.top, AV.top, AV.top, AV.top, AV.top, AV.top, AV.top, AV.top, AV.top, AV.top, AV.top, AV.top, AV.top, AV.top, AV.top, AV.top, AV.top, AV.top, und], h18) ∧ Hold B h18 [(AV.ptr o1 1 0 0, .pt 1 [Sl.enc s_.points]), (AV.ptr o5 1 0 0, .pt 3 [iv p_.x, iv p_.y, iv p_.t])]) := by
  refine loop_sim (Rel := fun (st : Int × Int) tm h14 => match st with | (w16, w17) => tm = [AV.agg [Sl.enc s_.points], AV.agg [iv p_.x, iv p_.y, iv p_.t], AV.ptr o1 1 0 0, AV.ptr o5 1 0 0, iv 0, iv 0, iv w16, iv w17, bv c9, bv (!c9), bv (!c9), AV.top, AV.top, cond (!c9) und (bv c12), bv (bif !c9 then true else c12), AV.top, AV.top, AV.top, AV.top, AV.top, AV.top, AV.top, AV.top, AV.top, AV.top, AV.top, AV.top, AV.top, AV.top, AV.top, AV.top, AV.top, AV.top, AV.top, AV.top, AV.top, AV.top, AV.top, und] ∧ Hold B h14 [(AV.ptr o1 1 0 0, .pt 1 [Sl.enc s_.points]), (AV.ptr o5 1 0 0, .pt 3 [iv p_.x, iv p_.y, iv p_.t])]) (fun st tm h14 R => ?_) R
  obtain ⟨w16, w17⟩ := st
  obtain ⟨rfl, O15⟩ := R
  rw [e_lb0_spec_NearestPoint]
  unfold s0_spec_NearestPoint
  dsimp only
  refine sim_let (v := AV.ptr o1 1 0 0) rfl ?_
  refine sim_let (v := Sl.enc s_.points) (O15.ld 0 rfl false 1 0) ?_
  refine sim_let (v := iv (((s_.points.getD []).length : Nat) : Int)) (Tab.enc h14 s_.points).len ?_
  refine sim_let (v := bv (decide (w17 < (((s_.points.getD []).length : Nat) : Int)))) (aBin_lss _ _) ?_
  refine sim_cond (fun c22 => ?_) (fun c22 => ?_)
  · refine sim_let (v := AV.ptr o1 1 0 0) rfl ?_
    refine sim_let (v := Sl.enc s_.points) (O15.ld 0 rfl false 1 0) ?_
    refine sim_get (Tab.enc h14 s_.points) (fun m24 a23 hi25 hm26 => ?_)
    refine sim_let (v := AV.agg [iv a23.x, iv a23.y, iv a23.t]) ((Tab.enc h14 s_.points).ld hm26 true 3 0) ?_
    refine sim_let (v := AV.agg [iv p_.x, iv p_.y, iv p_.t]) (O15.ld 1 rfl true 3 0) ?_
    refine sim_callQ2 he_spec_l05Far (snapD_nr _ a23 rfl) (snapD_nr _ p_ rfl) (fun c27 => ?_)
    refine sim_let2 (hand_plain (by rfl) _ _) ?_
    refine sim_let (v := AV.ptr o1 1 0 0) rfl ?_
    refine sim_let (v := Sl.enc s_.points) (O15.ld 0 rfl false 1 0) ?_
    refine sim_get (Tab.enc h14 s_.points) (fun m29 a28 hi30 hm31 => ?_)
    refine sim_let (v := AV.agg [iv a28.x, iv a28.y, iv a28.t]) ((Tab.enc h14 s_.points).ld hm31 true 3 0) ?_
    refine sim_let (v := AV.agg [iv p_.x, iv p_.y, iv p_.t]) (O15.ld 1 rfl true 3 0) ?_
    refine sim_callQ2 he_spec_l05Far (snapD_nr _ a28 rfl) (snapD_nr _ p_ rfl) (fun c32 => ?_)
    refine sim_let2 (hand_plain (by rfl) _ _) ?_
    refine sim_let (v := bv (decide (c27 < c32))) (aBin_lss _ _) ?_
    refine sim_cond (fun c33 => ?_) (fun c33 => ?_)
    · refine sim_let (v := iv (wr (w17 + 1))) (aBin_add _ _) ?_
      exact sim_ret ⟨rfl, rfl, O15⟩
    · refine sim_let (v := iv (wr (w17 + 1))) (aBin_add _ _) ?_
      exact sim_ret ⟨rfl, rfl, O15⟩
  · exact sim_ret ⟨nofun, _, _, rfl, O15⟩
theorem ts_spec_NearestPoint (env : Nat → Contract) (he_spec_l02Point : env n_spec_l02Point = .pure (C1 (fun c : Bool => enc c) t_spec_l02Point)) (he_spec_l02Stroke : env n_spec_l02Stroke = .pure (C1 (fun c : Bool => enc c) tp_spec_l02Stroke)) (he_spec_l05Far : env n_spec_l05Far = .pure (C2 (fun c : Int => enc c) t_spec_l05Far)) (s_ : Stroke) (p_ : Point) : Sim (denFn Try.prog env n_spec_NearestPoint [AV.agg [Sl.enc s_.points], AV.agg [iv p_.x, iv p_.y, iv p_.t]] []) (t_spec_NearestPoint s_ p_) fun c p => release p.2 depth p.1 = some ((fun c : Int × Int => AV.tup [enc c.1, enc c.2]) c) := by
  have O := Hold.nil []
  generalize hB : (⟨[], []⟩ : Base) = B at O
  clear hB
  rw [e_spec_NearestPoint]
  unfold t_spec_NearestPoint
  refine sim_box O (cs := [Sl.enc s_.points]) (by first | rfl | simp) (fun o1 h2 O3 => ?_)
  replace O3 : Hold B h2 [(AV.ptr o1 1 0 0, .pt 1 [Sl.enc s_.points])] := O3
  refine sim_box O3 (cs := [iv p_.x, iv p_.y, iv p_.t]) (by first | rfl | simp) (fun o5 h6 O7 => ?_)
  replace O7 : Hold B h6 [(AV.ptr o1 1 0 0, .pt 1 [Sl.enc s_.points]), (AV.ptr o5 1 0 0, .pt 3 [iv p_.x, iv p_.y, iv p_.t])] := O7
  refine sim_eqO (y' := tp_spec_l02Stroke ⟨[s_], 0⟩) (by simp only [tp_spec_l02Stroke, get_pt1, obind_sm]) ?_
  refine sim_call1 he_spec_l02Stroke (O7.snapRn 0 rfl s_ rfl rfl) (fun c9 => ?_)
  refine sim_let2 (hand_plain (by rfl) _ _) ?_
  refine sim_let (v := bv (!c9)) (aUn_not _) ?_
  refine sim_guardF (e := bv) (fun hb10 => ?_) (fun c12 => ?_)
  · refine sim_let (v := AV.agg [iv p_.x, iv p_.y, iv p_.t]) (O7.ld 1 rfl true 3 0) ?_
    refine sim_call1 he_spec_l02Point (snapD_nr _ p_ rfl) (fun c11 => ?_)
    refine sim_let2 (hand_plain (by rfl) _ _) ?_
    refine sim_let (v := bv (!c11)) (aUn_not _) ?_
    exact sim_ret rfl
  · refine sim_let (v := bv (bif !c9 then true else c12)) (pick_b' _ _ _) ?_
    refine sim_cond (fun c13 => ?_) (fun c13 => ?_)
    · exact sim_ret (release_plain (by rfl) _)
    · refine sim_bind ((tl0_spec_NearestPoint env he_spec_l02Point he_spec_l02Stroke he_spec_l05Far s_ p_ o1 o5 c9 c12) ⟨rfl, O7⟩) (fun qq38 r hq => ?_)
      revert hq
      revert qq38
      intro q20 hq
      obtain ⟨q21, h18, rfl, O19⟩ := hq
      rw [e_lk0x0_spec_NearestPoint]
      exact sim_ret (release_plain (by rfl) _)
theorem tt_spec_NearestPoint : PureOK Try.prog n_spec_NearestPoint (C2 (fun c : Int × Int => AV.tup [enc c.1, enc c.2]) t_spec_NearestPoint) := pureC2 (Econs tt_spec_l02Point (Econs tt_spec_l02Stroke (Econs tt_spec_l05Far E0))) mixed hb_spec_NearestPoint fun s_ p_ => ts_spec_NearestPoint _ (by simp [envL]) (by simp [envL]) (by simp [envL]) s_ p_

def s0_spec_l02SameStroke (a_ : Stroke) (b_ : Stroke) : Int → Option (Sum Int (Sum Unit Bool)) := fun w4 =>
  bif decide (w4 < (((a_.points.getD []).length : Nat) : Int)) then
    obind (getI (a_.points.getD []) w4) fun a14 =>
    obind (getI (b_.points.getD []) w4) fun a18 =>
    bif !decide (a14 = a18) then
      some (.inr (.inr false))
    else
      some (.inl (wr (w4 + 1)))
  else
    some (.inr (.inl ()))
def t_spec_l02SameStroke (a_ : Stroke) (b_ : Stroke) : Option Bool :=
  bif !decide ((((a_.points.getD []).length : Nat) : Int) = (((b_.points.getD []).length : Nat) : Int)) then
    some false
  else
    obind (loopT (s0_spec_l02SameStroke a_ b_) 0) fun qq27 => match qq27 with
    | (.inl _) =>
        some true
    | (.inr q11) =>
        some q11
def tp_spec_l02SameStroke (a_p : Pt Stroke) (b_p : Pt Stroke) : Option Bool := obind a_p.get fun a_ => obind b_p.get fun b_ => t_spec_l02SameStroke a_ b_

theorem tl0_spec_l02SameStroke (env : Nat → Contract) {B : Base}  (a_ : Stroke) (a_p : Pt Stroke) (hp_a_ : a_p.get = some a_) (b_ : Stroke) (b_p : Pt Stroke) (hp_b_ : b_p.get = some b_)  {st : Int} {tm : TM} {h : Heap} (R : (fun (st : Int) tm h2 => match st with | w4 => tm = [AV.fptr (Row.w Stroke) (a_p.tab.map Row.cells) a_p.i 0, AV.fptr (Row.w Stroke) (b_p.tab.map Row.cells) b_p.i 0, und, und, AV.top, iv w4, AV.fptr (Row.w Stroke) (a_p.tab.map Row.cells) a_p.i 0, AV.fptr (Row.w Stroke) (a_p.tab.map Row.cells) a_p.i 0, AV.fptr (Row.w Stroke) (a_p.tab.map Row.cells) a_p.i 0, Sl.enc a_.points, iv (((a_.points.getD []).length : Nat) : Int), AV.fptr (Row.w Stroke) (b_p.tab.map Row.cells) b_p.i 0, AV.fptr (Row.w Stroke) (b_p.tab.map Row.cells) b_p.i 0, AV.fptr (Row.w Stroke) (b_p.tab.map Row.cells) b_p.i 0, Sl.enc b_.points, iv (((b_.points.getD []).length : Nat) : Int), bv (!decide ((((a_.points.getD []).length : Nat) : Int) = (((b_.points.getD []).length : Nat) : Int))), AV.top, AV.top, AV.top, AV.top, AV.top, AV.top, AV.top, AV.top, AV.top, AV.top, AV.top, AV.top, AV.top, AV.top, AV.top, AV.top, AV.top, AV.top, AV.top, AV.top, AV.top, AV.top, AV.top, AV.top] ∧ Hold B h2 []) st tm h) : Sim (loopP hm0_spec_l02SameStroke xm0_spec_l02SameStroke (lb0_spec_l02SameStroke env) tm h) (loopT (s0_spec_l02SameStroke a_ b_) st) (fun (q : Sum Unit Bool) (r : Res) => match q with | .inl _ => ∃ (q8 : Int) (z7 : AV) (h5 : Heap), r = (.exit 0, [AV.fptr (Row.w Stroke) (a_p.tab.map Row.cells) a_p.i 0, AV.fptr (Row.w Stroke) (b_p.tab.map Row.cells) b_p.i 0, und, und, z7, iv q8, AV.fptr (Row.w Stroke) (a_p.tab.map Row.cells) a_p.i 0, AV.fptr (Row.w Stroke) (a_p.tab.map Row.cells) a_p.i 0, AV.fptr (Row.w Stroke) (a_p.tab.map Row.cells) a_p.i 0, Sl.enc a_.points, iv (((a_.points.getD []).length : Nat) : Int), AV.fptr (Row.w Stroke) (b_p.tab.map Row.cells) b_p.i 0, AV.fptr (Row.w Stroke) (b_p.tab.map Row.cells) b_p.i 0, AV.fptr (Row.w Stroke) (b_p.tab.map Row.cells) b_p.i 0, Sl.enc b_.points, iv (((b_.points.getD []).length : Nat) : Int), bv (!decide ((((a_.points.getD []).length : Nat) : Int) = (((b_.points.getD []).length : Nat) : Int))), AV.top, AV.top, AV.top, AV.top, AV.top, AV.top, AV.top, AV.top, AV.top, AV.top, AV.top, AV.top, AV.top, AV.top, AV.top, AV.top, AV.top, AV.top, AV.top, AV.top, AV.top, AV.top, AV.top, AV.top], h5) ∧ Hold B h5 [] | .inr q11 => ∃ (q12 : Int) (h9 : Heap), r = (.ret, [AV.fptr (Row.w Stroke) (a_p.tab.map Row.cells) a_p.i 0, AV.fptr (Row.w Stroke) (b_p.tab.map Row.cells) b_p.i 0, und, und, bv q11, iv q12, AV.fptr (Row.w Stroke) (a_p.tab.map Row.cells) a_p.i 0, AV.fptr (Row.w Stroke) (a_p.tab.map Row.cells) a_p.i 0, AV.fptr (Row.w Stroke) (a_p.tab.map Row.cells) a_p.i 0, Sl.enc a_.points, iv (((a_.points.getD []).length : Nat) : Int), AV.fptr (Row.w Stroke) (b_p.tab.map Row.cells) b_p.i 0, AV.fptr (Row.w Stroke) (b_p.tab.map Row.cells) b_p.i 0, AV.fptr (Row.w Stroke) (b_p.tab.map Row.cells) b_p.i 0, Sl.enc b_.points, iv (((b_.points.getD []).length : Nat) : Int), bv (!decide ((((a_.points.getD []).length : Nat) : Int) = (((b_.points.getD []).length : Nat) : Int))), AV.top, AV.top, AV.top, AV.top, AV.top, AV.top, AV.top, AV.top, AV.top, AV.top, AV.top, AV.top, AV.top, AV.top, AV.top, AV.top, AV.top, AV.top, AV.top, AV.top, AV.top, AV.top, AV.top, AV.top], h9) ∧ Hold B h9 []) := by
  refine loop_sim (Rel := fun (st : Int) tm h2 => match st with | w4 => tm = [AV.fptr (Row.w Stroke) (a_p.tab.map Row.cells) a_p.i 0, AV.fptr (Row.w Stroke) (b_p.tab.map Row.cells) b_p.i 0, und, und, AV.top, iv w4, AV.fptr (Row.w Stroke) (a_p.tab.map Row.cells) a_p.i 0, AV.fptr (Row.w Stroke) (a_p.tab.map Row.cells) a_p.i 0, AV.fptr (Row.w Stroke) (a_p.tab.map Row.cells) a_p.i 0, Sl.enc a_.points, iv (((a_.points.getD []).length : Nat) : Int), AV.fptr (Row.w Stroke) (b_p.tab.map Row.cells) b_p.i 0, AV.fptr (Row.w Stroke) (b_p.tab.map Row.cells) b_p.i 0, AV.fptr (Row.w Stroke) (b_p.tab.map Row.cells) b_p.i 0, Sl.enc b_.points, iv (((b_.points.getD []).length : Nat) : Int), bv (!decide ((((a_.points.getD []).length : Nat) : Int) = (((b_.points.getD []).length : Nat) : Int))), AV.top, AV.top, AV.top, AV.top, AV.top, AV.top, AV.top, AV.top, AV.top, AV.top, AV.top, AV.top, AV.top, AV.top, AV.top, AV.top, AV.top, AV.top, AV.top, AV.top, AV.top, AV.top, AV.top, AV.top] ∧ Hold B h2 []) (fun w4 tm h2 R => ?_) R
  obtain ⟨rfl, O3⟩ := R
  rw [e_lb0_spec_l02SameStroke]
  unfold s0_spec_l02SameStroke
  dsimp only
  refine sim_let (v := AV.fptr (Row.w Stroke) (a_p.tab.map Row.cells) a_p.i 0) rfl ?_
  refine sim_let (v := AV.fptr (Row.w Stroke) (a_p.tab.map Row.cells) a_p.i 0) rfl ?_
  refine sim_let (v := Sl.enc a_.points) (ld_pt hp_a_ false 1 0) ?_
  refine sim_let (v := iv (((a_.points.getD []).length : Nat) : Int)) (Tab.enc h2 a_.points).len ?_
  refine sim_let (v := bv (decide (w4 < (((a_.points.getD []).length : Nat) : Int)))) (aBin_lss _ _) ?_
  refine sim_cond (fun c13 => ?_) (fun c13 => ?_)
  · refine sim_let (v := AV.fptr (Row.w Stroke) (a_p.tab.map Row.cells) a_p.i 0) rfl ?_
    refine sim_let (v := AV.fptr (Row.w Stroke) (a_p.tab.map Row.cells) a_p.i 0) rfl ?_
    refine sim_let (v := Sl.enc a_.points) (ld_pt hp_a_ false 1 0) ?_
    refine sim_get (Tab.enc h2 a_.points) (fun m15 a14 hi16 hm17 => ?_)
    refine sim_let (v := AV.agg [iv a14.x, iv a14.y, iv a14.t]) ((Tab.enc h2 a_.points).ld hm17 true 3 0) ?_
    refine sim_let (v := AV.fptr (Row.w Stroke) (b_p.tab.map Row.cells) b_p.i 0) rfl ?_
    refine sim_let (v := AV.fptr (Row.w Stroke) (b_p.tab.map Row.cells) b_p.i 0) rfl ?_
    refine sim_let (v := Sl.enc b_.points) (ld_pt hp_b_ false 1 0) ?_
    refine sim_get (Tab.enc h2 b_.points) (fun m19 a18 hi20 hm21 => ?_)
    refine sim_let (v := AV.agg [iv a18.x, iv a18.y, iv a18.t]) ((Tab.enc h2 b_.points).ld hm21 true 3 0) ?_
    refine sim_let (v := bv (!decide (a14 = a18))) (aCmp_Point a14 a18).2 ?_
    refine sim_cond (fun c22 => ?_) (fun c22 => ?_)
    · exact sim_ret ⟨nofun, _, _, rfl, O3⟩
    · refine sim_let (v := iv (wr (w4 + 1))) (aBin_add _ _) ?_
      exact sim_ret ⟨rfl, rfl, O3⟩
  · exact sim_ret ⟨nofun, _, _, _, rfl, O3⟩
theorem ts_spec_l02SameStroke (env : Nat → Contract)  (a_ : Stroke) (b_ : Stroke) {a_p : Pt Stroke} (hp_a_ : a_p.get = some a_) {b_p : Pt Stroke} (hp_b_ : b_p.get = some b_) : Sim (denFn Try.prog env n_spec_l02SameStroke [AV.fptr (Row.w Stroke) (a_p.tab.map Row.cells) a_p.i 0, AV.fptr (Row.w Stroke) (b_p.tab.map Row.cells) b_p.i 0] []) (t_spec_l02SameStroke a_ b_) fun c p => release p.2 depth p.1 = some ((fun c : Bool => enc c) c) := by
  have O := Hold.nil []
  generalize hB : (⟨[], []⟩ : Base) = B at O
  clear hB
  rw [e_spec_l02SameStroke]
  unfold t_spec_l02SameStroke
  refine sim_let (v := AV.fptr (Row.w Stroke) (a_p.tab.map Row.cells) a_p.i 0) rfl ?_
  refine sim_let (v := AV.fptr (Row.w Stroke) (a_p.tab.map Row.cells) a_p.i 0) rfl ?_
  refine sim_let (v := Sl.enc a_.points) (ld_pt hp_a_ false 1 0) ?_
  refine sim_let (v := iv (((a_.points.getD []).length : Nat) : Int)) (Tab.enc [] a_.points).len ?_
  refine sim_let (v := AV.fptr (Row.w Stroke) (b_p.tab.map Row.cells) b_p.i 0) rfl ?_
  refine sim_let (v := AV.fptr (Row.w Stroke) (b_p.tab.map Row.cells) b_p.i 0) rfl ?_
  refine sim_let (v := Sl.enc b_.points) (ld_pt hp_b_ false 1 0) ?_
  refine sim_let (v := iv (((b_.points.getD []).length : Nat) : Int)) (Tab.enc [] b_.points).len ?_
  refine sim_let (v := bv (!decide ((((a_.points.getD []).length : Nat) : Int) = (((b_.points.getD []).length : Nat) : Int)))) (aCmp_ne _ _) ?_
  refine sim_cond (fun c1 => ?_) (fun c1 => ?_)
  · exact sim_ret (release_plain (by rfl) _)
  · refine sim_bind ((tl0_spec_l02SameStroke env a_ a_p hp_a_ b_ b_p hp_b_) ⟨rfl, O⟩) (fun qq27 r hq => ?_)
    rcases qq27 with _ | q11
    · obtain ⟨q8, z7, h5, rfl, O6⟩ := hq
      rw [e_lk0x0_spec_l02SameStroke]
      exact sim_ret (release_plain (by rfl) _)
    · obtain ⟨q12, h9, rfl, O10⟩ := hq
      rw [e_lk0r_spec_l02SameStroke]
      exact sim_ret (release_plain (by rfl) _)
theorem tt_spec_l02SameStroke : PureOK Try.prog n_spec_l02SameStroke (C2 (fun c : Bool => enc c) tp_spec_l02SameStroke) := pureC2 E0 mixed hb_spec_l02SameStroke fun a_p b_p => sim_getP fun a_ hp_a_ => sim_getP fun b_ hp_b_ => ts_spec_l02SameStroke _  a_ b_ hp_a_ hp_b_

def s0_spec_l02Same (a_ : Ink) (b_ : Ink) : Int → Option (Sum Int (Sum Unit Bool)) := fun w4 =>
  bif decide (w4 < (((a_.strokes.getD []).length : Nat) : Int)) then
    obind (getI (a_.strokes.getD []) w4) fun a14 =>
    obind (getI (b_.strokes.getD []) w4) fun a18 =>
    obind (t_spec_l02SameStroke a14 a18) fun c22 =>
    bif !c22 then
      some (.inr (.inr false))
    else
      some (.inl (wr (w4 + 1)))
  else
    some (.inr (.inl ()))
def t_spec_l02Same (a_ : Ink) (b_ : Ink) : Option Bool :=
  bif !decide ((((a_.strokes.getD []).length : Nat) : Int) = (((b_.strokes.getD []).length : Nat) : Int)) then
    some false
  else
    obind (loopT (s0_spec_l02Same a_ b_) 0) fun qq28 => match qq28 with
    | (.inl _) =>
        some true
    | (.inr q11) =>
        some q11
def tp_spec_l02Same (a_p : Pt Ink) (b_p : Pt Ink) : Option Bool := obind a_p.get fun a_ => obind b_p.get fun b_ => t_spec_l02Same a_ b_

theorem tl0_spec_l02Same (env : Nat → Contract) {B : Base} (he_spec_l02SameStroke : env n_spec_l02SameStroke = .pure (C2 (fun c : Bool => enc c) tp_spec_l02SameStroke)) (a_ : Ink) (a_p : Pt Ink) (hp_a_ : a_p.get = some a_) (b_ : Ink) (b_p : Pt Ink) (hp_b_ : b_p.get = some b_)  {st : Int} {tm : TM} {h : Heap} (R : (fun (st : Int) tm h2 => match st with | w4 => tm = [AV.fptr (Row.w Ink) (a_p.tab.map Row.cells) a_p.i 0, AV.fptr (Row.w Ink) (b_p.tab.map Row.cells) b_p.i 0, und, und, AV.top, iv w4, AV.fptr (Row.w Ink) (a_p.tab.map Row.cells) a_p.i 0, AV.fptr (Row.w Ink) (a_p.tab.map Row.cells) a_p.i 0, AV.fptr (Row.w Ink) (a_p.tab.map Row.cells) a_p.i 0, Sl.enc a_.strokes, iv (((a_.strokes.getD []).length : Nat) : Int), AV.fptr (Row.w Ink) (b_p.tab.map Row.cells) b_p.i 0, AV.fptr (Row.w Ink) (b_p.tab.map Row.cells) b_p.i 0, AV.fptr (Row.w Ink) (b_p.tab.map Row.cells) b_p.i 0, Sl.enc b_.strokes, iv (((b_.strokes.getD []).length : Nat) : Int), bv (!decide ((((a_.strokes.getD []).length : Nat) : Int) = (((b_.strokes.getD []).length : Nat) : Int))), AV.top, AV.top, AV.top, AV.top, AV.top, AV.top, AV.top, AV.top, AV.top, AV.top, AV.top, AV.top, AV.top, AV.top, AV.top, AV.top, AV.top, AV.top, AV.top, AV.top, AV.top, AV.top, AV.top] ∧ Hold B h2 []) st tm h) : Sim (loopP hm0_spec_l02Same xm0_spec_l02Same (lb0_spec_l02Same env) tm h) (loopT (s0_spec_l02Same a_ b_) st) (fun (q : Sum Unit Bool) (r : Res) => match q with | .inl _ => ∃ (q8 : Int) (z7 : AV) (h5 : Heap), r = (.exit 0, [AV.fptr (Row.w Ink) (a_p.tab.map Row.cells) a_p.i 0, AV.fptr (Row.w Ink) (b_p.tab.map Row.cells) b_p.i 0, und, und, z7, iv q8, AV.fptr (Row.w Ink) (a_p.tab.map Row.cells) a_p.i 0, AV.fptr (Row.w Ink) (a_p.tab.map Row.cells) a_p.i 0, AV.fptr (Row.w Ink) (a_p.tab.map Row.cells) a_p.i 0, Sl.enc a_.strokes, iv (((a_.strokes.getD []).length : Nat) : Int), AV.fptr (Row.w Ink) (b_p.tab.map Row.cells) b_p.i 0, AV.fptr (Row.w Ink) (b_p.tab.map Row.cells) b_p.i 0, AV.fptr (Row.w Ink) (b_p.tab.map Row.cells) b_p.i 0, Sl.enc b_.strokes, iv (((b_.strokes.getD []).length : Nat) : Int), bv (!decide ((((a_.strokes.getD []).length : Nat) : Int) = (((b_.strokes.getD []).length : Nat) : Int))), AV.top, AV.top, AV.top, AV.top, AV.top, AV.top, AV.top, AV.top, AV.top, AV.top, AV.top, AV.top, AV.top, AV.top, AV.top, AV.top, AV.top, AV.top, AV.top, AV.top, AV.top, AV.top, AV.top], h5) ∧ Hold B h5 [] | .inr q11 => ∃ (q12 : Int) (h9 : Heap), r = (.ret, [AV.fptr (Row.w Ink) (a_p.tab.map Row.cells) a_p.i 0, AV.fptr (Row.w Ink) (b_p.tab.map Row.cells) b_p.i 0, und, und, bv q11, iv q12, AV.fptr (Row.w Ink) (a_p.tab.map Row.cells) a_p.i 0, AV.fptr (Row.w Ink) (a_p.tab.map Row.cells) a_p.i 0, AV.fptr (Row.w Ink) (a_p.tab.map Row.cells) a_p.i 0, Sl.enc a_.strokes, iv (((a_.strokes.getD []).length : Nat) : Int), AV.fptr (Row.w Ink) (b_p.tab.map Row.cells) b_p.i 0, AV.fptr (Row.w Ink) (b_p.tab.map Row.cells) b_p.i 0, AV.fptr (Row.w Ink) (b_p.tab.map Row.cells) b_p.i 0, Sl.enc b_.strokes, iv (((b_.strokes.getD []).length : Nat) : Int), bv (!decide ((((a_.strokes.getD []).length : Nat) : Int) = (((b_.strokes.getD []).length : Nat) : Int))), AV.top, AV.top, AV.top, AV.top, AV.top, AV.top, AV.top, AV.top, AV.top, AV.top, AV.top, AV.top, AV.top, AV.top, AV.top, AV.top, AV.top, AV.top, AV.top, AV.top, AV.top, AV.top, AV.top], h9) ∧ Hold B h9 []) := by
  refine loop_sim (Rel := fun (st : Int) tm h2 => match st with | w4 => tm = [AV.fptr (Row.w Ink) (a_p.tab.map Row.cells) a_p.i 0, AV.fptr (Row.w Ink) (b_p.tab.map Row.cells) b_p.i 0, und, und, AV.top, iv w4, AV.fptr (Row.w Ink) (a_p.tab.map Row.cells) a_p.i 0, AV.fptr (Row.w Ink) (a_p.tab.map Row.cells) a_p.i 0, AV.fptr (Row.w Ink) (a_p.tab.map Row.cells) a_p.i 0, Sl.enc a_.strokes, iv (((a_.strokes.getD []).length : Nat) : Int), AV.fptr (Row.w Ink) (b_p.tab.map Row.cells) b_p.i 0, AV.fptr (Row.w Ink) (b_p.tab.map Row.cells) b_p.i 0, AV.fptr (Row.w Ink) (b_p.tab.map Row.cells) b_p.i 0, Sl.enc b_.strokes, iv (((b_.strokes.getD []).length : Nat) : Int), bv (!decide ((((a_.strokes.getD []).length : Nat) : Int) = (((b_.strokes.getD []).length : Nat) : Int))), AV.top, AV.top, AV.top, AV.top, AV.top, AV.top, AV.top, AV.top, AV.top, AV.top, AV.top, AV.top, AV.top, AV.top, AV.top, AV.top, AV.top, AV.top, AV.top, AV.top, AV.top, AV.top, AV.top] ∧ Hold B h2 []) (fun w4 tm h2 R => ?_) R
  obtain ⟨rfl, O3⟩ := R
  rw [e_lb0_spec_l02Same]
  unfold s0_spec_l02Same
  dsimp only
  refine sim_let (v := AV.fptr (Row.w Ink) (a_p.tab.map Row.cells) a_p.i 0) rfl ?_
  refine sim_let (v := AV.fptr (Row.w Ink) (a_p.tab.map Row.cells) a_p.i 0) rfl ?_
  refine sim_let (v := Sl.enc a_.strokes) (ld_pt hp_a_ false 1 0) ?_
  refine sim_let (v := iv (((a_.strokes.getD []).length : Nat) : Int)) (Tab.enc h2 a_.strokes).len ?_
  refine sim_let (v := bv (decide (w4 < (((a_.strokes.getD []).length : Nat) : Int)))) (aBin_lss _ _) ?_
  refine sim_cond (fun c13 => ?_) (fun c13 => ?_)
  · refine sim_let (v := AV.fptr (Row.w Ink) (a_p.tab.map Row.cells) a_p.i 0) rfl ?_
    refine sim_let (v := AV.fptr (Row.w Ink) (a_p.tab.map Row.cells) a_p.i 0) rfl ?_
    refine sim_let (v := Sl.enc a_.strokes) (ld_pt hp_a_ false 1 0) ?_
    refine sim_get (Tab.enc h2 a_.strokes) (fun m15 a14 hi16 hm17 => ?_)
    refine sim_let (v := AV.fptr (Row.w Ink) (b_p.tab.map Row.cells) b_p.i 0) rfl ?_
    refine sim_let (v := AV.fptr (Row.w Ink) (b_p.tab.map Row.cells) b_p.i 0) rfl ?_
    refine sim_let (v := Sl.enc b_.strokes) (ld_pt hp_b_ false 1 0) ?_
    refine sim_get (Tab.enc h2 b_.strokes) (fun m19 a18 hi20 hm21 => ?_)
    refine sim_eqO (y' := tp_spec_l02SameStroke ⟨a_.strokes.getD [], m15⟩ ⟨b_.strokes.getD [], m19⟩) (by simp only [tp_spec_l02SameStroke, get_ptAt hm17, get_ptAt hm21, obind_sm]) ?_
    refine sim_callQ2 he_spec_l02SameStroke (snapD_elpR _ a_.strokes hm17) (snapD_elpR _ b_.strokes hm21) (fun c22 => ?_)
    refine sim_let2 (hand_plain (by rfl) _ _) ?_
    refine sim_let (v := bv (!c22)) (aUn_not _) ?_
    refine sim_cond (fun c23 => ?_) (fun c23 => ?_)
    · exact sim_ret ⟨nofun, _, _, rfl, O3⟩
    · refine sim_let (v := iv (wr (w4 + 1))) (aBin_add _ _) ?_
      exact sim_ret ⟨rfl, rfl, O3⟩
  · exact sim_ret ⟨nofun, _, _, _, rfl, O3⟩
theorem ts_spec_l02Same (env : Nat → Contract) (he_spec_l02SameStroke : env n_spec_l02SameStroke = .pure (C2 (fun c : Bool => enc c) tp_spec_l02SameStroke)) (a_ : Ink) (b_ : Ink) {a_p : Pt Ink} (hp_a_ : a_p.get = some a_) {b_p : Pt Ink} (hp_b_ : b_p.get = some b_) : Sim (denFn Try.prog env n_spec_l02Same [AV.fptr (Row.w Ink) (a_p.tab.map Row.cells) a_p.i 0, AV.fptr (Row.w Ink) (b_p.tab.map Row.cells) b_p.i 0] []) (t_spec_l02Same a_ b_) fun c p => release p.2 depth p.1 = some ((fun c : Bool => enc c) c) := by
  have O := Hold.nil []
  generalize hB : (⟨[], []⟩ : Base) = B at O
  clear hB
  rw [e_spec_l02Same]
  unfold t_spec_l02Same
  refine sim_let (v := AV.fptr (Row.w Ink) (a_p.tab.map Row.cells) a_p.i 0) rfl ?_
  refine sim_let (v := AV.fptr (Row.w Ink) (a_p.tab.map Row.cells) a_p.i 0) rfl ?_
  refine sim_let (v := Sl.enc a_.strokes) (ld_pt hp_a_ false 1 0) ?_
  refine sim_let (v := iv (((a_.strokes.getD []).length : Nat) : Int)) (Tab.enc [] a_.strokes).len ?_
  refine sim_let (v := AV.fptr (Row.w Ink) (b_p.tab.map Row.cells) b_p.i 0) rfl ?_
  refine sim_let (v := AV.fptr (Row.w Ink) (b_p.tab.map Row.cells) b_p.i 0) rfl ?_
  refine sim_let (v := Sl.enc b_.strokes) (ld_pt hp_b_ false 1 0) ?_
  refine sim_let (v := iv (((b_.strokes.getD []).length : Nat) : Int)) (Tab.enc [] b_.strokes).len ?_
  refine sim_let (v := bv (!decide ((((a_.strokes.getD []).length : Nat) : Int) = (((b_.strokes.getD []).length : Nat) : Int)))) (aCmp_ne _ _) ?_
  refine sim_cond (fun c1 => ?_) (fun c1 => ?_)
  · exact sim_ret (release_plain (by rfl) _)
  · refine sim_bind ((tl0_spec_l02Same env he_spec_l02SameStroke a_ a_p hp_a_ b_ b_p hp_b_) ⟨rfl, O⟩) (fun qq28 r hq => ?_)
    rcases qq28 with _ | q11
    · obtain ⟨q8, z7, h5, rfl, O6⟩ := hq
      rw [e_lk0x0_spec_l02Same]
      exact sim_ret (release_plain (by rfl) _)
    · obtain ⟨q12, h9, rfl, O10⟩ := hq
      rw [e_lk0r_spec_l02Same]
      exact sim_ret (release_plain (by rfl) _)
theorem tt_spec_l02Same : PureOK Try.prog n_spec_l02Same (C2 (fun c : Bool => enc c) tp_spec_l02Same) := pureC2 (Econs tt_spec_l02SameStroke E0) mixed hb_spec_l02Same fun a_p b_p => sim_getP fun a_ hp_a_ => sim_getP fun b_ hp_b_ => ts_spec_l02Same _ (by simp [envL]) a_ b_ hp_a_ hp_b_

def t_spec_SameInk (a_ : Ink) (b_ : Ink) : Option Bool :=
  obind (t_spec_l02Same a_ b_) fun c9 =>
  some c9

theorem ts_spec_SameInk (env : Nat → Contract) (he_spec_l02Same : env n_spec_l02Same = .pure (C2 (fun c : Bool => enc c) tp_spec_l02Same)) (a_ : Ink) (b_ : Ink) : Sim (denFn Try.prog env n_spec_SameInk [AV.agg [Sl.enc a_.strokes], AV.agg [Sl.enc b_.strokes]] []) (t_spec_SameInk a_ b_) fun c p => release p.2 depth p.1 = some ((fun c : Bool => enc c) c) := by
  have O := Hold.nil []
  generalize hB : (⟨[], []⟩ : Base) = B at O
  clear hB
  rw [e_spec_SameInk]
  unfold t_spec_SameInk
  refine sim_box O (cs := [Sl.enc a_.strokes]) (by first | rfl | simp) (fun o1 h2 O3 => ?_)
  replace O3 : Hold B h2 [(AV.ptr o1 1 0 0, .pt 1 [Sl.enc a_.strokes])] := O3
  refine sim_box O3 (cs := [Sl.enc b_.strokes]) (by first | rfl | simp) (fun o5 h6 O7 => ?_)
  replace O7 : Hold B h6 [(AV.ptr o1 1 0 0, .pt 1 [Sl.enc a_.strokes]), (AV.ptr o5 1 0 0, .pt 1 [Sl.enc b_.strokes])] := O7
  refine sim_eqO (y' := tp_spec_l02Same ⟨[a_], 0⟩ ⟨[b_], 0⟩) (by simp only [tp_spec_l02Same, get_pt1, obind_sm]) ?_
  refine sim_call2 he_spec_l02Same (O7.snapRn 0 rfl a_ rfl rfl) (O7.snapRn 1 rfl b_ rfl rfl) (fun c9 => ?_)
  refine sim_let2 (hand_plain (by rfl) _ _) ?_
  exact sim_ret (release_plain (by rfl) _)
theorem tt_spec_SameInk : PureOK Try.prog n_spec_SameInk (C2 (fun c : Bool => enc c) t_spec_SameInk) := pureC2 (Econs tt_spec_l02Same E0) mixed hb_spec_SameInk fun a_ b_ => ts_spec_SameInk _ (by simp [envL]) a_ b_

def t_laws_f6stroke (a_ : Stroke) (b_ : Stroke) : Option Bool :=
  obind (t_spec_SameInk (⟨(some ([a_] : List Stroke))⟩ : Ink) (⟨(some ([b_] : List Stroke))⟩ : Ink)) fun c17 =>
  some c17

theorem ts_laws_f6stroke (env : Nat → Contract) (he_spec_SameInk : env n_spec_SameInk = .pure (C2 (fun c : Bool => enc c) t_spec_SameInk)) (a_ : Stroke) (b_ : Stroke) : Sim (denFn Try.prog env n_laws_f6stroke [AV.agg [Sl.enc a_.points], AV.agg [Sl.enc b_.points]] []) (t_laws_f6stroke a_ b_) fun c p => release p.2 depth p.1 = some ((fun c : Bool => enc c) c) := by
  have O := Hold.nil []
  generalize hB : (⟨[], []⟩ : Base) = B at O
  clear hB
  rw [e_laws_f6stroke]
  unfold t_laws_f6stroke
  refine sim_box O (cs := [Sl.enc a_.points]) (by first | rfl | simp) (fun o1 h2 O3 => ?_)
  replace O3 : Hold B h2 [(AV.ptr o1 1 0 0, .pt 1 [Sl.enc a_.points])] := O3
  refine sim_box O3 (cs := [Sl.enc b_.points]) (by first | rfl | simp) (fun o5 h6 O7 => ?_)
  replace O7 : Hold B h6 [(AV.ptr o1 1 0 0, .pt 1 [Sl.enc a_.points]), (AV.ptr o5 1 0 0, .pt 1 [Sl.enc b_.points])] := O7
  refine sim_let (v := AV.agg [Sl.enc a_.points]) (O7.ld 0 rfl true 1 0) ?_
  refine sim_build (A := Stroke) O7 ([a_] : List Stroke) rfl (by first | rfl | simp [aFillRows, zrows]) rfl (fun x9 h10 O11 => ?_)
  replace O11 : Hold B h10 [(AV.ptr o1 1 0 0, .pt 1 [Sl.enc a_.points]), (AV.ptr o5 1 0 0, .pt 1 [Sl.enc b_.points]), (x9, obS ((some ([a_] : List Stroke)) : Sl Stroke))] := O11
  refine sim_let (v := AV.agg [x9]) (by first | rfl | simp [aBuild, aFill, splice, (O11.one (A := Stroke) (s := (some ([a_] : List Stroke))) 2 rfl).1, (O11.one (A := Stroke) (s := (some ([a_] : List Stroke))) 2 rfl).2]) ?_
  refine sim_let (v := AV.agg [Sl.enc b_.points]) (O11.ld 1 rfl true 1 0) ?_
  refine sim_build (A := Stroke) O11 ([b_] : List Stroke) rfl (by first | rfl | simp [aFillRows, zrows]) rfl (fun x13 h14 O15 => ?_)
  replace O15 : Hold B h14 [(AV.ptr o1 1 0 0, .pt 1 [Sl.enc a_.points]), (AV.ptr o5 1 0 0, .pt 1 [Sl.enc b_.points]), (x9, obS ((some ([a_] : List Stroke)) : Sl Stroke)), (x13, obS ((some ([b_] : List Stroke)) : Sl Stroke))] := O15
  refine sim_let (v := AV.agg [x13]) (by first | rfl | simp [aBuild, aFill, splice, (O15.one (A := Stroke) (s := (some ([b_] : List Stroke))) 3 rfl).1, (O15.one (A := Stroke) (s := (some ([b_] : List Stroke))) 3 rfl).2]) ?_
  refine sim_call2 he_spec_SameInk (snapD_own h14 (⟨(some ([a_] : List Stroke))⟩ : Ink) rfl (by simp [omap, O15.snap7 (A := Stroke) (s := (some ([a_] : List Stroke))) 2 rfl])) (snapD_own h14 (⟨(some ([b_] : List Stroke))⟩ : Ink) rfl (by simp [omap, O15.snap7 (A := Stroke) (s := (some ([b_] : List Stroke))) 3 rfl])) (fun c17 => ?_)
  refine sim_let2 (hand_plain (by rfl) _ _) ?_
  exact sim_ret (release_plain (by rfl) _)
theorem tt_laws_f6stroke : PureOK Try.prog n_laws_f6stroke (C2 (fun c : Bool => enc c) t_laws_f6stroke) := pureC2 (Econs tt_spec_SameInk E0) mixed hb_laws_f6stroke fun a_ b_ => ts_laws_f6stroke _ (by simp [envL]) a_ b_

def t_laws_FnAreas (code_ : Sl UInt8) : Option Bool :=
  obind (t_laws_f6big code_) fun c1 =>
  bif c1 then
    some true
  else
    obind (t_spec_DrawReverseStroke code_) fun c3 =>
    obind (t_impl_ReverseStroke c3) fun c14 =>
    obind (t_spec_ReverseStroke c3) fun c25 =>
    obind (t_impl_StrokeArea c3) fun c36 =>
    obind (t_spec_StrokeArea c3) fun c37 =>
    obind (t_spec_DrawNearestPoint code_) fun c38 =>
    obind (t_impl_NearestPoint c38.1 c38.2) fun c55 =>
    obind (t_spec_NearestPoint c38.1 c38.2) fun c56 =>
    obind (bif !decide (c14.2 = c25.2) then some false else (obind (t_laws_f6stroke c14.1 c25.1) fun c58 => some (!c58))) fun c59 =>
    obind (bif (bif !decide (c14.2 = c25.2) then true else c59) then some false else (some (!decide (c36.2 = c37.2)))) fun c61 =>
    obind (bif (bif (bif !decide (c14.2 = c25.2) then true else c59) then true else c61) then some false else (some (!decide (c36.1 = c37.1)))) fun c63 =>
    obind (bif (bif (bif (bif !decide (c14.2 = c25.2) then true else c59) then true else c61) then true else c63) then some false else (some (!decide (c55.2 = c56.2)))) fun c65 =>
    obind (bif (bif (bif (bif (bif !decide (c14.2 = c25.2) then true else c59) then true else c61) then true else c63) then true else c65) then some false else (some (!decide (c55.1 = c56.1)))) fun c67 =>
    bif (bif (bif (bif (bif (bif !decide (c14.2 = c25.2) then true else c59) then true else c61) then true else c63) then true else c65) then true else c67) then
      some false
    else
      bif !decide (c14.2 = 0) then
        some true
      else
        obind (t_impl_StrokeArea c14.1) fun c70 =>
        obind (t_impl_StrokeLength c3) fun c71 =>
        obind (t_impl_StrokeLength c14.1) fun c72 =>
        obind (t_impl_ReverseStroke c14.1) fun c73 =>
        obind (bif decide (c70.2 = 0) then (some (decide (c70.1 = wr (0 - c36.1)))) else some false) fun c85 =>
        obind (bif (bif decide (c70.2 = 0) then c85 else false) then (some (decide (c71.2 = 0))) else some false) fun c87 =>
        obind (bif (bif (bif decide (c70.2 = 0) then c85 else false) then c87 else false) then (some (decide (c72.2 = 0))) else some false) fun c89 =>
        obind (bif (bif (bif (bif decide (c70.2 = 0) then c85 else false) then c87 else false) then c89 else false) then (some (decide (c71.1 = c72.1))) else some false) fun c91 =>
        obind (bif (bif (bif (bif (bif decide (c70.2 = 0) then c85 else false) then c87 else false) then c89 else false) then c91 else false) then (some (decide (c73.2 = 0))) else some false) fun c93 =>
        obind (bif (bif (bif (bif (bif (bif decide (c70.2 = 0) then c85 else false) then c87 else false) then c89 else false) then c91 else false) then c93 else false) then (obind (t_laws_f6stroke c73.1 c3) fun c95 => some c95) else some false) fun c96 =>
        some (bif (bif (bif (bif (bif (bif decide (c70.2 = 0) then c85 else false) then c87 else false) then c89 else false) then c91 else false) then c93 else false) then c96 else false)

theorem ts_laws_FnAreas (env : Nat → Contract) (he_impl_NearestPoint : env n_impl_NearestPoint = .pure (C2 (fun c : Int × Int => AV.tup [enc c.1, enc c.2]) t_impl_NearestPoint)) (he_impl_ReverseStroke : env n_impl_ReverseStroke = .pure (C1 (fun c : Stroke × Int => AV.tup [AV.agg [rS c.1.points], enc c.2]) t_impl_ReverseStroke)) (he_impl_StrokeArea : env n_impl_StrokeArea = .pure (C1 (fun c : Int × Int => AV.tup [enc c.1, enc c.2]) t_impl_StrokeArea)) (he_impl_StrokeLength : env n_impl_StrokeLength = .pure (C1 (fun c : Int × Int => AV.tup [enc c.1, enc c.2]) t_impl_StrokeLength)) (he_laws_f6big : env n_laws_f6big = .pure (C1 (fun c : Bool => enc c) t_laws_f6big)) (he_laws_f6stroke : env n_laws_f6stroke = .pure (C2 (fun c : Bool => enc c) t_laws_f6stroke)) (he_spec_DrawNearestPoint : env n_spec_DrawNearestPoint = .pure (C1 (fun c : Stroke × Point => AV.tup [AV.agg [rS c.1.points], enc c.2]) t_spec_DrawNearestPoint)) (he_spec_DrawReverseStroke : env n_spec_DrawReverseStroke = .pure (C1 (fun c : Stroke => AV.agg [rS c.points]) t_spec_DrawReverseStroke)) (he_spec_NearestPoint : env n_spec_NearestPoint = .pure (C2 (fun c : Int × Int => AV.tup [enc c.1, enc c.2]) t_spec_NearestPoint)) (he_spec_ReverseStroke : env n_spec_ReverseStroke = .pure (C1 (fun c : Stroke × Int => AV.tup [AV.agg [rS c.1.points], enc c.2]) t_spec_ReverseStroke)) (he_spec_StrokeArea : env n_spec_StrokeArea = .pure (C1 (fun c : Int × Int => AV.tup [enc c.1, enc c.2]) t_spec_StrokeArea)) (code_ : Sl UInt8) : Sim (denFn Try.prog env n_laws_FnAreas [Sl.enc code_] []) (t_laws_FnAreas code_) fun c p => release p.2 depth p.1 = some ((fun c : Bool => enc c) c) := by
  have O := Hold.nil []
  generalize hB : (⟨[], []⟩ : Base) = B at O
  clear hB
  rw [e_laws_FnAreas]
  unfold t_laws_FnAreas
  refine sim_call1 he_laws_f6big (snapD_enc _ _) (fun c1 => ?_)
  refine sim_let2 (hand_plain (by rfl) _ _) ?_
  refine sim_cond (fun c2 => ?_) (fun c2 => ?_)
  · exact sim_ret (release_plain (by rfl) _)
  · refine sim_call1 he_spec_DrawReverseStroke (snapD_enc _ _) (fun c3 => ?_)
    refine sim_hand1 O (c3.points : Sl Point) (fun z1 => AV.agg [z1]) (by intro b; simp only [mat_tup, mat_aggD, mat_agg, matLc, matLn, mat_iv, mat_bv, mat_sv, mat_bt, mat_nilS, mat_rS, List.append_nil, List.nil_append, List.length_nil, Nat.add_zero]) (by simp only [noF_tup, noF_aggD, noF_agg, noF_iv, noF_bv, noF_sv, noF_bt, noF_nilS, noF_rS, List.all_cons, List.all_nil, Bool.and_self]) (fun x5 h6 O7 => ?_)
    replace O7 : Hold B h6 [(x5, obS (c3.points : Sl Point))] := O7
    refine sim_box O7 (cs := [nilS]) (by first | rfl | simp) (fun o8 h9 O10 => ?_)
    replace O10 : Hold B h9 [(x5, obS (c3.points : Sl Point)), (AV.ptr o8 1 0 0, .pt 1 [nilS])] := O10
    refine sim_store O10 1 (cs' := [x5]) rfl (by first | rfl | simp [(O10.one (A := Point) (s := c3.points) 0 rfl).1, (O10.one (A := Point) (s := c3.points) 0 rfl).2]) (by simp) (by first | rfl | simp [(O10.one (A := Point) (s := c3.points) 0 rfl).1, (O10.one (A := Point) (s := c3.points) 0 rfl).2]) (by first | rfl | simp [splice, (O10.one (A := Point) (s := c3.points) 0 rfl).1, (O10.one (A := Point) (s := c3.points) 0 rfl).2]) (fun h12 O13 => ?_)
    replace O13 : Hold B h12 [(x5, obS (c3.points : Sl Point)), (AV.ptr o8 1 0 0, .pt 1 [x5])] := O13
    refine sim_let (v := AV.agg [x5]) (O13.ld 1 rfl true 1 0) ?_
    refine sim_call1 he_impl_ReverseStroke (snapD_own h12 c3 rfl (by simp [omap, O13.snap7 (A := Point) (s := c3.points) 0 rfl])) (fun c14 => ?_)
    refine sim_hand1 O13 (c14.1.points : Sl Point) (fun z1 => AV.tup [AV.agg [z1], iv c14.2]) (by intro b; simp only [mat_tup, mat_aggD, mat_agg, matLc, matLn, mat_iv, mat_bv, mat_sv, mat_bt, mat_nilS, mat_rS, List.append_nil, List.nil_append, List.length_nil, Nat.add_zero]) (by simp only [noF_tup, noF_aggD, noF_agg, noF_iv, noF_bv, noF_sv, noF_bt, noF_nilS, noF_rS, List.all_cons, List.all_nil, Bool.and_self]) (fun x16 h17 O18 => ?_)
    replace O18 : Hold B h17 [(x5, obS (c3.points : Sl Point)), (AV.ptr o8 1 0 0, .pt 1 [x5]), (x16, obS (c14.1.points : Sl Point))] := O18
    refine sim_let (v := AV.agg [x16]) rfl ?_
    refine sim_let (v := iv c14.2) rfl ?_
    refine sim_box O18 (cs := [nilS]) (by first | rfl | simp) (fun o19 h20 O21 => ?_)
    replace O21 : Hold B h20 [(x5, obS (c3.points : Sl Point)), (AV.ptr o8 1 0 0, .pt 1 [x5]), (x16, obS (c14.1.points : Sl Point)), (AV.ptr o19 1 0 0, .pt 1 [nilS])] := O21
    refine sim_store O21 3 (cs' := [x16]) rfl (by first | rfl | simp [(O21.one (A := Point) (s := c14.1.points) 2 rfl).1, (O21.one (A := Point) (s := c14.1.points) 2 rfl).2]) (by simp) (by first | rfl | simp [(O21.one (A := Point) (s := c14.1.points) 2 rfl).1, (O21.one (A := Point) (s := c14.1.points) 2 rfl).2]) (by first | rfl | simp [splice, (O21.one (A := Point) (s := c14.1.points) 2 rfl).1, (O21.one (A := Point) (s := c14.1.points) 2 rfl).2]) (fun h23 O24 => ?_)
    replace O24 : Hold B h23 [(x5, obS (c3.points : Sl Point)), (AV.ptr o8 1 0 0, .pt 1 [x5]), (x16, obS (c14.1.points : Sl Point)), (AV.ptr o19 1 0 0, .pt 1 [x16])] := O24
    refine sim_let (v := AV.agg [x5]) (O24.ld 1 rfl true 1 0) ?_
    refine sim_call1 he_spec_ReverseStroke (snapD_own h23 c3 rfl (by simp [omap, O24.snap7 (A := Point) (s := c3.points) 0 rfl])) (fun c25 => ?_)
    refine sim_hand1 O24 (c25.1.points : Sl Point) (fun z1 => AV.tup [AV.agg [z1], iv c25.2]) (by intro b; simp only [mat_tup, mat_aggD, mat_agg, matLc, matLn, mat_iv, mat_bv, mat_sv, mat_bt, mat_nilS, mat_rS, List.append_nil, List.nil_append, List.length_nil, Nat.add_zero]) (by simp only [noF_tup, noF_aggD, noF_agg, noF_iv, noF_bv, noF_sv, noF_bt, noF_nilS, noF_rS, List.all_cons, List.all_nil, Bool.and_self]) (fun x27 h28 O29 => ?_)
    replace O29 : Hold B h28 [(x5, obS (c3.points : Sl Point)), (AV.ptr o8 1 0 0, .pt 1 [x5]), (x16, obS (c14.1.points : Sl Point)), (AV.ptr o19 1 0 0, .pt 1 [x16]), (x27, obS (c25.1.points : Sl Point))] := O29
    refine sim_let (v := AV.agg [x27]) rfl ?_
    refine sim_let (v := iv c25.2) rfl ?_
    refine sim_box O29 (cs := [nilS]) (by first | rfl | simp) (fun o30 h31 O32 => ?_)
    replace O32 : Hold B h31 [(x5, obS (c3.points : Sl Point)), (AV.ptr o8 1 0 0, .pt 1 [x5]), (x16, obS (c14.1.points : Sl Point)), (AV.ptr o19 1 0 0, .pt 1 [x16]), (x27, obS (c25.1.points : Sl Point)), (AV.ptr o30 1 0 0, .pt 1 [nilS])] := O32
    refine sim_store O32 5 (cs' := [x27]) rfl (by first | rfl | simp [(O32.one (A := Point) (s := c25.1.points) 4 rfl).1, (O32.one (A := Point) (s := c25.1.points) 4 rfl).2]) (by simp) (by first | rfl | simp [(O32.one (A := Point) (s := c25.1.points) 4 rfl).1, (O32.one (A := Point) (s := c25.1.points) 4 rfl).2]) (by first | rfl | simp [splice, (O32.one (A := Point) (s := c25.1.points) 4 rfl).1, (O32.one (A := Point) (s := c25.1.points) 4 rfl).2]) (fun h34 O35 => ?_)
    replace O35 : Hold B h34 [(x5, obS (c3.points : Sl Point)), (AV.ptr o8 1 0 0, .pt 1 [x5]), (x16, obS (c14.1.points : Sl Point)), (AV.ptr o19 1 0 0, .pt 1 [x16]), (x27, obS (c25.1.points : Sl Point)), (AV.ptr o30 1 0 0, .pt 1 [x27])] := O35
    refine sim_let (v := AV.agg [x5]) (O35.ld 1 rfl true 1 0) ?_
    refine sim_call1 he_impl_StrokeArea (snapD_own h34 c3 rfl (by simp [omap, O35.snap7 (A := Point) (s := c3.points) 0 rfl])) (fun c36 => ?_)
    refine sim_let2 (hand_plain (by rfl) _ _) ?_
    refine sim_let (v := iv c36.1) rfl ?_
    refine sim_let (v := iv c36.2) rfl ?_
    refine sim_let (v := AV.agg [x5]) (O35.ld 1 rfl true 1 0) ?_
    refine sim_call1 he_spec_StrokeArea (snapD_own h34 c3 rfl (by simp [omap, O35.snap7 (A := Point) (s := c3.points) 0 rfl])) (fun c37 => ?_)
    refine sim_let2 (hand_plain (by rfl) _ _) ?_
    refine sim_let (v := iv c37.1) rfl ?_
    refine sim_let (v := iv c37.2) rfl ?_
    refine sim_call1 he_spec_DrawNearestPoint (snapD_enc _ _) (fun c38 => ?_)
    refine sim_hand1 O35 (c38.1.points : Sl Point) (fun z1 => AV.tup [AV.agg [z1], AV.agg [iv c38.2.x, iv c38.2.y, iv c38.2.t]]) (by intro b; simp only [mat_tup, mat_aggD, mat_agg, matLc, matLn, mat_iv, mat_bv, mat_sv, mat_bt, mat_nilS, mat_rS, List.append_nil, List.nil_append, List.length_nil, Nat.add_zero]) (by simp only [noF_tup, noF_aggD, noF_agg, noF_iv, noF_bv, noF_sv, noF_bt, noF_nilS, noF_rS, List.all_cons, List.all_nil, Bool.and_self]) (fun x40 h41 O42 => ?_)
    replace O42 : Hold B h41 [(x5, obS (c3.points : Sl Point)), (AV.ptr o8 1 0 0, .pt 1 [x5]), (x16, obS (c14.1.points : Sl Point)), (AV.ptr o19 1 0 0, .pt 1 [x16]), (x27, obS (c25.1.points : Sl Point)), (AV.ptr o30 1 0 0, .pt 1 [x27]), (x40, obS (c38.1.points : Sl Point))] := O42
    refine sim_let (v := AV.agg [x40]) rfl ?_
    refine sim_let (v := AV.agg [iv c38.2.x, iv c38.2.y, iv c38.2.t]) rfl ?_
    refine sim_box O42 (cs := [nilS]) (by first | rfl | simp) (fun o43 h44 O45 => ?_)
    replace O45 : Hold B h44 [(x5, obS (c3.points : Sl Point)), (AV.ptr o8 1 0 0, .pt 1 [x5]), (x16, obS (c14.1.points : Sl Point)), (AV.ptr o19 1 0 0, .pt 1 [x16]), (x27, obS (c25.1.points : Sl Point)), (AV.ptr o30 1 0 0, .pt 1 [x27]), (x40, obS (c38.1.points : Sl Point)), (AV.ptr o43 1 0 0, .pt 1 [nilS])] := O45
    refine sim_box O45 (cs := [iv 0, iv 0, iv 0]) (by first | rfl | simp) (fun o47 h48 O49 => ?_)
    replace O49 : Hold B h48 [(x5, obS (c3.points : Sl Point)), (AV.ptr o8 1 0 0, .pt 1 [x5]), (x16, obS (c14.1.points : Sl Point)), (AV.ptr o19 1 0 0, .pt 1 [x16]), (x27, obS (c25.1.points : Sl Point)), (AV.ptr o30 1 0 0, .pt 1 [x27]), (x40, obS (c38.1.points : Sl Point)), (AV.ptr o43 1 0 0, .pt 1 [nilS]), (AV.ptr o47 1 0 0, .pt 3 [iv 0, iv 0, iv 0])] := O49
    refine sim_store O49 7 (cs' := [x40]) rfl (by first | rfl | simp [(O49.one (A := Point) (s := c38.1.points) 6 rfl).1, (O49.one (A := Point) (s := c38.1.points) 6 rfl).2]) (by simp) (by first | rfl | simp [(O49.one (A := Point) (s := c38.1.points) 6 rfl).1, (O49.one (A := Point) (s := c38.1.points) 6 rfl).2]) (by first | rfl | simp [splice, (O49.one (A := Point) (s := c38.1.points) 6 rfl).1, (O49.one (A := Point) (s := c38.1.points) 6 rfl).2]) (fun h51 O52 => ?_)
    replace O52 : Hold B h51 [(x5, obS (c3.points : Sl Point)), (AV.ptr o8 1 0 0, .pt 1 [x5]), (x16, obS (c14.1.points : Sl Point)), (AV.ptr o19 1 0 0, .pt 1 [x16]), (x27, obS (c25.1.points : Sl Point)), (AV.ptr o30 1 0 0, .pt 1 [x27]), (x40, obS (c38.1.points : Sl Point)), (AV.ptr o43 1 0 0, .pt 1 [x40]), (AV.ptr o47 1 0 0, .pt 3 [iv 0, iv 0, iv 0])] := O52
    refine sim_store O52 8 (cs' := [iv c38.2.x, iv c38.2.y, iv c38.2.t]) rfl (by first | rfl | simp) (by simp) (by first | rfl | simp) (by first | rfl | simp [splice]) (fun h53 O54 => ?_)
    replace O54 : Hold B h53 [(x5, obS (c3.points : Sl Point)), (AV.ptr o8 1 0 0, .pt 1 [x5]), (x16, obS (c14.1.points : Sl Point)), (AV.ptr o19 1 0 0, .pt 1 [x16]), (x27, obS (c25.1.points : Sl Point)), (AV.ptr o30 1 0 0, .pt 1 [x27]), (x40, obS (c38.1.points : Sl Point)), (AV.ptr o43 1 0 0, .pt 1 [x40]), (AV.ptr o47 1 0 0, .pt 3 [iv c38.2.x, iv c38.2.y, iv c38.2.t])] := O54
    refine sim_let (v := AV.agg [x40]) (O54.ld 7 rfl true 1 0) ?_
    refine sim_let (v := AV.agg [iv c38.2.x, iv c38.2.y, iv c38.2.t]) (O54.ld 8 rfl true 3 0) ?_
    refine sim_call2 he_impl_NearestPoint (snapD_own h53 c38.1 rfl (by simp [omap, O54.snap7 (A := Point) (s := c38.1.points) 6 rfl])) (snapD_nr _ c38.2 rfl) (fun c55 => ?_)
    refine sim_let2 (hand_plain (by rfl) _ _) ?_
    refine sim_let (v := iv c55.1) rfl ?_
    refine sim_let (v := iv c55.2) rfl ?_
    refine sim_let (v := AV.agg [x40]) (O54.ld 7 rfl true 1 0) ?_
    refine sim_let (v := AV.agg [iv c38.2.x, iv c38.2.y, iv c38.2.t]) (O54.ld 8 rfl true 3 0) ?_
    refine sim_call2 he_spec_NearestPoint (snapD_own h53 c38.1 rfl (by simp [omap, O54.snap7 (A := Point) (s := c38.1.points) 6 rfl])) (snapD_nr _ c38.2 rfl) (fun c56 => ?_)
    refine sim_let2 (hand_plain (by rfl) _ _) ?_
    refine sim_let (v := iv c56.1) rfl ?_
    refine sim_let (v := iv c56.2) rfl ?_
    refine sim_let (v := bv (!decide (c14.2 = c25.2))) (aCmp_ne _ _) ?_
    refine sim_guardF (e := bv) (fun hb57 => ?_) (fun c59 => ?_)
    · refine sim_let (v := AV.agg [x16]) (O54.ld 3 rfl true 1 0) ?_
      refine sim_let (v := AV.agg [x27]) (O54.ld 5 rfl true 1 0) ?_
      refine sim_call2 he_laws_f6stroke (snapD_own h53 c14.1 rfl (by simp [omap, O54.snap7 (A := Point) (s := c14.1.points) 2 rfl])) (snapD_own h53 c25.1 rfl (by simp [omap, O54.snap7 (A := Point) (s := c25.1.points) 4 rfl])) (fun c58 => ?_)
      refine sim_let2 (hand_plain (by rfl) _ _) ?_
      refine sim_let (v := bv (!c58)) (aUn_not _) ?_
      exact sim_ret rfl
    · refine sim_let (v := bv (bif !decide (c14.2 = c25.2) then true else c59)) (pick_b' _ _ _) ?_
      refine sim_guardF (e := bv) (fun hb60 => ?_) (fun c61 => ?_)
      · refine sim_let (v := bv (!decide (c36.2 = c37.2))) (aCmp_ne _ _) ?_
        exact sim_ret rfl
      · refine sim_let (v := bv (bif (bif !decide (c14.2 = c25.2) then true else c59) then true else c61)) (pick_b' _ _ _) ?_
        refine sim_guardF (e := bv) (fun hb62 => ?_) (fun c63 => ?_)
        · refine sim_let (v := bv (!decide (c36.1 = c37.1))) (aCmp_ne _ _) ?_
          exact sim_ret rfl
        · refine sim_let (v := bv (bif (bif (bif !decide (c14.2 = c25.2) then true else c59) then true else c61) then true else c63)) (pick_b' _ _ _) ?_
          refine sim_guardF (e := bv) (fun hb64 => ?_) (fun c65 => ?_)
          · refine sim_let (v := bv (!decide (c55.2 = c56.2))) (aCmp_ne _ _) ?_
            exact sim_ret rfl
          · refine sim_let (v := bv (bif (bif (bif (bif !decide (c14.2 = c25.2) then true else c59) then true else c61) then true else c63) then true else c65)) (pick_b' _ _ _) ?_
            refine sim_guardF (e := bv) (fun hb66 => ?_) (fun c67 => ?_)
            · refine sim_let (v := bv (!decide (c55.1 = c56.1))) (aCmp_ne _ _) ?_
              exact sim_ret rfl
            · refine sim_let (v := bv (bif (bif (bif (bif (bif !decide (c14.2 = c25.2) then true else c59) then true else c61) then true else c63) then true else c65) then true else c67)) (pick_b' _ _ _) ?_
              refine sim_cond (fun c68 => ?_) (fun c68 => ?_)
              · exact sim_ret (release_plain (by rfl) _)
              · refine sim_let (v := bv (!decide (c14.2 = 0))) (aCmp_ne _ _) ?_
                refine sim_cond (fun c69 => ?_) (fun c69 => ?_)
                · exact sim_ret (release_plain (by rfl) _)
                · refine sim_let (v := AV.agg [x16]) (O54.ld 3 rfl true 1 0) ?_
                  refine sim_call1 he_impl_StrokeArea (snapD_own h53 c14.1 rfl (by simp [omap, O54.snap7 (A := Point) (s := c14.1.points) 2 rfl])) (fun c70 => ?_)
                  refine sim_let2 (hand_plain (by rfl) _ _) ?_
                  refine sim_let (v := iv c70.1) rfl ?_
                  refine sim_let (v := iv c70.2) rfl ?_
                  refine sim_let (v := AV.agg [x5]) (O54.ld 1 rfl true 1 0) ?_
                  refine sim_call1 he_impl_StrokeLength (snapD_own h53 c3 rfl (by simp [omap, O54.snap7 (A := Point) (s := c3.points) 0 rfl])) (fun c71 => ?_)
                  refine sim_let2 (hand_plain (by rfl) _ _) ?_
                  refine sim_let (v := iv c71.1) rfl ?_
                  refine sim_let (v := iv c71.2) rfl ?_
                  refine sim_let (v := AV.agg [x16]) (O54.ld 3 rfl true 1 0) ?_
                  refine sim_call1 he_impl_StrokeLength (snapD_own h53 c14.1 rfl (by simp [omap, O54.snap7 (A := Point) (s := c14.1.points) 2 rfl])) (fun c72 => ?_)
                  refine sim_let2 (hand_plain (by rfl) _ _) ?_
                  refine sim_let (v := iv c72.1) rfl ?_
                  refine sim_let (v := iv c72.2) rfl ?_
                  refine sim_let (v := AV.agg [x16]) (O54.ld 3 rfl true 1 0) ?_
                  refine sim_call1 he_impl_ReverseStroke (snapD_own h53 c14.1 rfl (by simp [omap, O54.snap7 (A := Point) (s := c14.1.points) 2 rfl])) (fun c73 => ?_)
                  refine sim_hand1 O54 (c73.1.points : Sl Point) (fun z1 => AV.tup [AV.agg [z1], iv c73.2]) (by intro b; simp only [mat_tup, mat_aggD, mat_agg, matLc, matLn, mat_iv, mat_bv, mat_sv, mat_bt, mat_nilS, mat_rS, List.append_nil, List.nil_append, List.length_nil, Nat.add_zero]) (by simp only [noF_tup, noF_aggD, noF_agg, noF_iv, noF_bv, noF_sv, noF_bt, noF_nilS, noF_rS, List.all_cons, List.all_nil, Bool.and_self]) (fun x75 h76 O77 => ?_)
                  replace O77 : Hold B h76 [(x5, obS (c3.points : Sl Point)), (AV.ptr o8 1 0 0, .pt 1 [x5]), (x16, obS (c14.1.points : Sl Point)), (AV.ptr o19 1 0 0, .pt 1 [x16]), (x27, obS (c25.1.points : Sl Point)), (AV.ptr o30 1 0 0, .pt 1 [x27]), (x40, obS (c38.1.points : Sl Point)), (AV.ptr o43 1 0 0, .pt 1 [x40]), (AV.ptr o47 1 0 0, .pt 3 [iv c38.2.x, iv c38.2.y, iv c38.2.t]), (x75, obS (c73.1.points : Sl Point))] := O77
                  refine sim_let (v := AV.agg [x75]) rfl ?_
                  refine sim_let (v := iv c73.2) rfl ?_
                  refine sim_box O77 (cs := [nilS]) (by first | rfl | simp) (fun o78 h79 O80 => ?_)
                  replace O80 : Hold B h79 [(x5, obS (c3.points : Sl Point)), (AV.ptr o8 1 0 0, .pt 1 [x5]), (x16, obS (c14.1.points : Sl Point)), (AV.ptr o19 1 0 0, .pt 1 [x16]), (x27, obS (c25.1.points : Sl Point)), (AV.ptr o30 1 0 0, .pt 1 [x27]), (x40, obS (c38.1.points : Sl Point)), (AV.ptr o43 1 0 0, .pt 1 [x40]), (AV.ptr o47 1 0 0, .pt 3 [iv c38.2.x, iv c38.2.y, iv c38.2.t]), (x75, obS (c73.1.points : Sl Point)), (AV.ptr o78 1 0 0, .pt 1 [nilS])] := O80
                  refine sim_store O80 10 (cs' := [x75]) rfl (by first | rfl | simp [(O80.one (A := Point) (s := c73.1.points) 9 rfl).1, (O80.one (A := Point) (s := c73.1.points) 9 rfl).2]) (by simp) (by first | rfl | simp [(O80.one (A := Point) (s := c73.1.points) 9 rfl).1, (O80.one (A := Point) (s := c73.1.points) 9 rfl).2]) (by first | rfl | simp [splice, (O80.one (A := Point) (s := c73.1.points) 9 rfl).1, (O80.one (A := Point) (s := c73.1.points) 9 rfl).2]) (fun h82 O83 => ?_)
                  replace O83 : Hold B h82 [(x5, obS (c3.points : Sl Point)), (AV.ptr o8 1 0 0, .pt 1 [x5]), (x16, obS (c14.1.points : Sl Point)), (AV.ptr o19 1 0 0, .pt 1 [x16]), (x27, obS (c25.1.points : Sl Point)), (AV.ptr o30 1 0 0, .pt 1 [x27]), (x40, obS (c38.1.points : Sl Point)), (AV.ptr o43 1 0 0, .pt 1 [x40]), (AV.ptr o47 1 0 0, .pt 3 [iv c38.2.x, iv c38.2.y, iv c38.2.t]), (x75, obS (c73.1.points : Sl Point)), (AV.ptr o78 1 0 0, .pt 1 [x75])] := O83
                  refine sim_let (v := bv (decide (c70.2 = 0))) (aCmp_eq _ _) ?_
                  refine sim_guardT (e := bv) (fun hb84 => ?_) (fun c85 => ?_)
                  · refine sim_let (v := iv (wr (0 - c36.1))) (aUn_neg _) ?_
                    refine sim_let (v := bv (decide (c70.1 = wr (0 - c36.1)))) (aCmp_eq _ _) ?_
                    exact sim_ret rfl
                  · refine sim_let (v := bv (bif decide (c70.2 = 0) then c85 else false)) (pick_b _ _ _) ?_
                    refine sim_guardT (e := bv) (fun hb86 => ?_) (fun c87 => ?_)
                    · refine sim_let (v := bv (decide (c71.2 = 0))) (aCmp_eq _ _) ?_
                      exact sim_ret rfl
                    · refine sim_let (v := bv (bif (bif decide (c70.2 = 0) then c85 else false) then c87 else false)) (pick_b _ _ _) ?_
                      refine sim_guardT (e := bv) (fun hb88 => ?_) (fun c89 => ?_)
                      · refine sim_let (v := bv (decide (c72.2 = 0))) (aCmp_eq _ _) ?_
                        exact sim_ret rfl
                      · refine sim_let (v := bv (bif (bif (bif decide (c70.2 = 0) then c85 else false) then c87 else false) then c89 else false)) (pick_b _ _ _) ?_
                        refine sim_guardT (e := bv) (fun hb90 => ?_) (fun c91 => ?_)
                        · refine sim_let (v := bv (decide (c71.1 = c72.1))) (aCmp_eq _ _) ?_
                          exact sim_ret rfl
                        · refine sim_let (v := bv (bif (bif (bif (bif decide (c70.2 = 0) then c85 else false) then c87 else false) then c89 else false) then c91 else false)) (pick_b _ _ _) ?_
                          refine sim_guardT (e := bv) (fun hb92 => ?_) (fun c93 => ?_)
                          · refine sim_let (v := bv (decide (c73.2 = 0))) (aCmp_eq _ _) ?_
                            exact sim_ret rfl
                          · refine sim_let (v := bv (bif (bif (bif (bif (bif decide (c70.2 = 0) then c85 else false) then c87 else false) then c89 else false) then c91 else false) then c93 else false)) (pick_b _ _ _) ?_
                            refine sim_guardT (e := bv) (fun hb94 => ?_) (fun c96 => ?_)
                            · refine sim_let (v := AV.agg [x75]) (O83.ld 10 rfl true 1 0) ?_
                              refine sim_let (v := AV.agg [x5]) (O83.ld 1 rfl true 1 0) ?_
                              refine sim_call2 he_laws_f6stroke (snapD_own h82 c73.1 rfl (by simp [omap, O83.snap7 (A := Point) (s := c73.1.points) 9 rfl])) (snapD_own h82 c3 rfl (by simp [omap, O83.snap7 (A := Point) (s := c3.points) 0 rfl])) (fun c95 => ?_)
                              refine sim_let2 (hand_plain (by rfl) _ _) ?_
                              exact sim_ret rfl
                            · refine sim_let (v := bv (bif (bif (bif (bif (bif (bif decide (c70.2 = 0) then c85 else false) then c87 else false) then c89 else false) then c91 else false) then c93 else false) then c96 else false)) (pick_b _ _ _) ?_
                              exact sim_ret (release_plain (by rfl) _)
theorem tt_laws_FnAreas : PureOK Try.prog n_laws_FnAreas (C1 (fun c : Bool => enc c) t_laws_FnAreas) := pureC1 (Econs tt_impl_NearestPoint (Econs tt_impl_ReverseStroke (Econs tt_impl_StrokeArea (Econs tt_impl_StrokeLength (Econs tt_laws_f6big (Econs tt_laws_f6stroke (Econs tt_spec_DrawNearestPoint (Econs tt_spec_DrawReverseStroke (Econs tt_spec_NearestPoint (Econs tt_spec_ReverseStroke (Econs tt_spec_StrokeArea E0))))))))))) mixed hb_laws_FnAreas fun code_ => ts_laws_FnAreas _ (by simp [envL]) (by simp [envL]) (by simp [envL]) (by simp [envL]) (by simp [envL]) (by simp [envL]) (by simp [envL]) (by simp [envL]) (by simp [envL]) (by simp [envL]) (by simp [envL]) code_

/-- The source has been read up to `k` at most. -/
structure SK (s : l00Src) (k : Int) : Prop where
  lo : 0 ≤ s.pos
  hi : s.pos ≤ k

theorem SK.mono {s : l00Src} {k k' : Int} (h : SK s k) (hk : k ≤ k') : SK s k' := ⟨h.lo, by have := h.hi; omega⟩

theorem and255 (a : Int) : 0 ≤ wr (IntKind.u64.wrap ((BitVec.ofInt 64 a &&& BitVec.ofInt 64 255).toNat : Nat)) ∧ wr (IntKind.u64.wrap ((BitVec.ofInt 64 a &&& BitVec.ofInt 64 255).toNat : Nat)) ≤ 255 := by
  have h1 : (BitVec.ofInt 64 a &&& BitVec.ofInt 64 255).toNat ≤ 255 := by
    rw [BitVec.toNat_and]
    have : (BitVec.ofInt 64 255).toNat = 255 := by decide
    rw [this]
    exact Nat.and_le_right
  generalize (BitVec.ofInt 64 a &&& BitVec.ofInt 64 255).toNat = r at h1
  have h2 : IntKind.u64.wrap (r : Int) = r := by
    simp only [IntKind.wrap, IntKind.bits, IntKind.signed]
    simp only [Bool.false_and, Bool.false_eq_true, if_false]
    omega
  rw [h2, wr_id (by omega) (by omega)]
  omega

theorem getI_in {A : Type} {l : List A} {i : Int} (h0 : 0 ≤ i) (h1 : i < (l.length : Nat)) : ∃ a, getI l i = some a ∧ l[i.toNat]? = some a := by
  obtain ⟨m, rfl⟩ := Int.eq_ofNat_of_zero_le h0
  have h2 : m < l.length := by omega
  exact ⟨l[m], getI_nat (List.getElem?_eq_getElem h2), by simp [h2]⟩

theorem remI_pos {a b : Int} (ha : 0 ≤ a) (hb : 0 < b) : ∃ r, remI a b = some r ∧ 0 ≤ r ∧ r < b := by
  refine ⟨a.tmod b, ?_, Int.tmod_nonneg b ha, Int.tmod_lt_of_pos a hb⟩
  have : ¬ b = 0 := by omega
  simp [remI, this]

theorem dr_next {s : l00Src} {k : Int} (h : SK s k) (hk : k ≤ 1000000000000) : ∃ r s', t_spec_l00Src_next s = some (r, s') ∧ SK s' (k + 1) ∧ 0 ≤ r ∧ r ≤ 255 := by
  obtain ⟨h1, h2⟩ := h
  have w : wr (s.pos + 1) = s.pos + 1 := wr_id (by omega) (by omega)
  have b1 := fun a => (and255 a).1
  have b2 := fun a => (and255 a).2
  unfold t_spec_l00Src_next
  rw [w]
  by_cases c : s.pos < ((s.code.getD []).length : Nat)
  · obtain ⟨a, ha, _⟩ := getI_in h1 c
    have c2 : s.pos + 1 ≤ ((s.code.getD []).length : Nat) := by omega
    have := a.toNat_lt
    simp only [c, decide_true, cond_true, ha, obind_sm, c2]
    exact ⟨_, _, rfl, ⟨by simp only; omega, by simp only; omega⟩, by omega, by omega⟩
  · have c2 : ¬ s.pos + 1 ≤ ((s.code.getD []).length : Nat) := by omega
    simp only [c, decide_false, cond_false, c2]
    exact ⟨_, _, rfl, ⟨by simp only; omega, by simp only; omega⟩, b1 _, b2 _⟩

theorem dr_pick {s : l00Src} {k : Int} (h : SK s k) (hk : k ≤ 100000000000) {n : Int} (hn : n ≤ 60000) : ∃ r s', t_spec_l00Src_pick s n = some (r, s') ∧ SK s' (k + 2) ∧ 0 ≤ r ∧ (1 ≤ n → r < n) ∧ (n ≤ 1 → r = 0) := by
  unfold t_spec_l00Src_pick
  by_cases c : n ≤ 1
  · simp only [c, decide_true, cond_true]
    exact ⟨0, _, rfl, ⟨h.lo, by have := h.hi; simp only; omega⟩, by omega, fun _ => by omega, fun _ => rfl⟩
  · obtain ⟨r1, s1, e1, k1, p1, q1⟩ := dr_next h (by omega)
    simp only [c, decide_false, cond_false]
    have e1' : t_spec_l00Src_next ⟨s.code, s.pos, s.seed⟩ = some (r1, s1) := e1
    rw [e1', obind_sm]
    by_cases c2 : 200 < n
    · obtain ⟨r2, s2, e2, k2, p2, q2⟩ := dr_next k1 (by omega)
      have e2' : t_spec_l00Src_next ⟨s1.code, s1.pos, s1.seed⟩ = some (r2, s2) := e2
      have w1 : wr (r1 * 256) = r1 * 256 := wr_id (by omega) (by omega)
      have w2 : wr (r1 * 256 + r2) = r1 * 256 + r2 := wr_id (by omega) (by omega)
      obtain ⟨q, e3, p3, q3⟩ := remI_pos (a := r1 * 256 + r2) (b := n) (by omega) (by omega)
      simp only [c2, decide_true, cond_true, e2', obind_sm, w1, w2, e3]
      exact ⟨_, _, rfl, ⟨k2.lo, by have := k2.hi; simp only; omega⟩, p3, fun _ => q3, fun h => False.elim h⟩
    · obtain ⟨q, e3, p3, q3⟩ := remI_pos (a := r1) (b := n) (by omega) (by omega)
      simp only [c2, decide_false, cond_false, e3, obind_sm]
      exact ⟨_, _, rfl, ⟨k1.lo, by have := k1.hi; simp only; omega⟩, p3, fun _ => q3, fun h => False.elim h⟩

theorem dr_one {s : l00Src} {k : Int} (h : SK s k) (hk : k ≤ 100000000000) {n : Int} (hn : n ≤ 60000) : ∃ b s', t_spec_l00Src_one s n = some (b, s') ∧ SK s' (k + 2) := by
  obtain ⟨r, s', e, k', _⟩ := dr_pick h hk hn
  have e' : t_spec_l00Src_pick ⟨s.code, s.pos, s.seed⟩ n = some (r, s') := e
  unfold t_spec_l00Src_one
  simp only [e', obind_sm]
  exact ⟨_, _, rfl, k'⟩

theorem dr_among {s : l00Src} {k : Int} (h : SK s k) (hk : k ≤ 100000000000) {l : List Int} (h0 : l ≠ []) (hl : l.length ≤ 60000) : ∃ r s', t_spec_l00Src_among s (some l) = some (r, s') ∧ SK s' (k + 2) ∧ r ∈ l := by
  have hp : 0 < l.length := List.length_pos_iff.2 h0
  obtain ⟨r, s', e, k', p, q, _⟩ := dr_pick h hk (n := (l.length : Nat)) (by omega)
  have e' : t_spec_l00Src_pick ⟨s.code, s.pos, s.seed⟩ (l.length : Nat) = some (r, s') := e
  obtain ⟨a, ha, ha2⟩ := getI_in (l := l) p (q (by omega))
  unfold t_spec_l00Src_among
  simp only [Option.getD_some, e', obind_sm, ha]
  exact ⟨_, _, rfl, k', List.mem_of_getElem? ha2⟩

theorem wr_succ {k n : Nat} (h : k < n) (hn : n ≤ 4294967296) : wr ((k : Int) + 1) = ((k + 1 : Nat) : Int) := by
  rw [wr_id (by omega) (by omega)]
  omega

theorem get_lt {A : Type} {l : List A} {k : Nat} {a : A} (h : l[k]? = some a) : k < l.length := (List.getElem?_eq_some_iff.1 h).1

/-- A point that is one; the points of a stroke that is one. -/
structure PtV (p : Point) : Prop where
  x0 : 0 ≤ p.x
  x1 : p.x ≤ 4095
  y0 : 0 ≤ p.y
  y1 : p.y ≤ 4095
  t0 : 0 ≤ p.t
  t1 : p.t ≤ 3600000

structure StV (l : List Point) : Prop where
  pts : ∀ p ∈ l, PtV p
  inc : ∀ (k : Nat) p q, l[k]? = some p → l[k + 1]? = some q → p.t < q.t
  n1 : 1 ≤ l.length
  n2 : l.length ≤ 60

/-- Points of a bounded size. -/
structure PtB (p : Point) : Prop where
  x0 : -10000000 ≤ p.x
  x1 : p.x ≤ 10000000
  y0 : -10000000 ≤ p.y
  y1 : p.y ≤ 10000000
  t0 : -10000000 ≤ p.t
  t1 : p.t ≤ 10000000

structure StB (s : Stroke) : Prop where
  n : (s.points.getD []).length ≤ 100
  pts : ∀ p ∈ s.points.getD [], PtB p

theorem PtV.b {p : Point} (h : PtV p) : PtB p := by
  obtain ⟨h1, h2, h3, h4, h5, h6⟩ := h
  exact ⟨by omega, by omega, by omega, by omega, by omega, by omega⟩

theorem StV.b {l : List Point} (h : StV l) : StB ⟨some l⟩ := ⟨Nat.le_trans h.n2 (by omega), fun p hp => (h.pts p hp).b⟩

theorem appS_cons {A : Type} (s : Sl A) (a : A) (l : List A) : appS s (a :: l) = some (s.getD [] ++ a :: l) := by cases s <;> rfl

theorem appO_one {A : Type} (s : Sl A) (a : A) (h : (s.getD []).length ≤ 1000000) : appO s [a] = some (some (s.getD [] ++ [a])) := by
  rw [appO_some (by simp; omega), appS_cons]

theorem inc_app {l : List Point} {p : Point} (h : ∀ (k : Nat) p q, l[k]? = some p → l[k + 1]? = some q → p.t < q.t) (hp : ∀ q ∈ l, q.t < p.t) : ∀ (k : Nat) a b, (l ++ [p])[k]? = some a → (l ++ [p])[k + 1]? = some b → a.t < b.t := by
  intro k a b h1 h2
  have hk := get_lt h2
  simp only [List.length_append, List.length_cons, List.length_nil] at hk
  rw [List.getElem?_append_left (by omega)] at h1
  by_cases c : k + 1 < l.length
  · rw [List.getElem?_append_left c] at h2
    exact h k a b h1 h2
  · have e : k + 1 = l.length := by omega
    rw [e, List.getElem?_append_right (Nat.le_refl _), Nat.sub_self] at h2
    simp at h2
    subst h2
    exact hp a (List.mem_of_getElem? h1)

theorem cl_4095 (x : Int) : 0 ≤ max (0 : Int) (min 4095 x) ∧ max (0 : Int) (min 4095 x) ≤ 4095 := by omega

/-- What the drawing of a stroke keeps. -/
structure StI (s : Sl Point) (i : Nat) (t0 t : Int) : Prop where
  len : (s.getD []).length = i
  som : 0 < i → ∃ l, s = .some l
  pts : ∀ p ∈ s.getD [], PtV p ∧ t0 ≤ p.t ∧ p.t < t
  inc : ∀ (k : Nat) p q, (s.getD [])[k]? = some p → (s.getD [])[k + 1]? = some q → p.t < q.t

theorem StI.step {s : Sl Point} {i : Nat} {t0 t t' x y : Int} (h : StI s i t0 t) (hx : 0 ≤ x ∧ x ≤ 4095) (hy : 0 ≤ y ∧ y ≤ 4095) (ht : t0 ≤ t) (h0 : 0 ≤ t0) (h1 : t ≤ 3600000) (ht' : t < t') : StI (some (s.getD [] ++ [⟨x, y, t⟩])) (i + 1) t0 t' := by
  refine ⟨by simp [h.len], fun _ => ⟨_, rfl⟩, fun p hp => ?_, inc_app h.inc fun q hq => (h.pts q hq).2.2⟩
  rcases List.mem_append.1 hp with hp | hp
  · have := h.pts p hp
    exact ⟨this.1, this.2.1, by omega⟩
  · simp only [List.mem_singleton] at hp
    subst hp
    exact ⟨⟨hx.1, hx.2, hy.1, hy.2, by simp only; omega, by simp only; omega⟩, ht, ht'⟩

theorem dr_stroke {s : l00Src} {k : Int} (h : SK s k) (hk : k ≤ 1000000000) {time x y : Int} (t0 : 0 ≤ time) (t1 : time ≤ 3000000) (hx : 0 ≤ x ∧ x ≤ 4095) (hy : 0 ≤ y ∧ y ≤ 4095) :
    ∃ l s', t_spec_l02DrawStroke s time x y = some (⟨some l⟩, s') ∧ SK s' (k + 1000) ∧ StV l ∧ l.length ≤ 10 ∧ ∀ p ∈ l, time ≤ p.t ∧ p.t ≤ time + 300 := by
  obtain ⟨r1, s1, e1, k1, p1, q1, _⟩ := dr_pick h (by omega) (n := 60) (by omega)
  obtain ⟨r2, s2, e2, k2, p2, q2, _⟩ := dr_pick k1 (by omega) (n := 60) (by omega)
  obtain ⟨r3, s3, e3, k3, p3, q3, _⟩ := dr_pick k2 (by omega) (n := 10) (by omega)
  have q1' := q1 (by omega)
  have q2' := q2 (by omega)
  have q3' := q3 (by omega)
  have w1 : wr (1 + r3) = 1 + r3 := wr_id (by omega) (by omega)
  have w2 : wr (r1 - 20) = r1 - 20 := wr_id (by omega) (by omega)
  have w3 : wr (r2 - 30) = r2 - 30 := wr_id (by omega) (by omega)
  obtain ⟨N, hN⟩ := Int.eq_ofNat_of_zero_le (a := 1 + r3) (by omega)
  unfold t_spec_l02DrawStroke
  simp only [e1, e2, e3, obind_sm, w1, w2, w3]
  obtain ⟨⟨c1, c2, c3, c4⟩, f1, f2, f3⟩ := loopT_ex (step := s0_spec_l02DrawStroke) (fun i (t : (Sl UInt8) × Int × Int × (Sl Point) × Int × Int × Int × Int × Int × Int) => SK ⟨t.1, t.2.1, t.2.2.1⟩ (k + 6 + 12 * i) ∧ StI t.2.2.2.1 i time t.2.2.2.2.1 ∧ (time ≤ t.2.2.2.2.1 ∧ t.2.2.2.2.1 ≤ time + 20 * i) ∧
      (0 ≤ t.2.2.2.2.2.1 ∧ t.2.2.2.2.2.1 ≤ 4095) ∧ (0 ≤ t.2.2.2.2.2.2.1 ∧ t.2.2.2.2.2.2.1 ≤ 4095) ∧ (-100 ≤ t.2.2.2.2.2.2.2.1 ∧ t.2.2.2.2.2.2.2.1 ≤ 100) ∧ (-100 ≤ t.2.2.2.2.2.2.2.2.1 ∧ t.2.2.2.2.2.2.2.2.1 ≤ 100) ∧ t.2.2.2.2.2.2.2.2.2 = N - (i : Int))
    N (fun r => SK ⟨r.1, r.2.1, r.2.2.1⟩ (k + 6 + 12 * N) ∧ StI r.2.2.2 N time (time + 20 * N + 1))
    (fun i ⟨v1, v2, v3, v4, v5, v6, v7, v8, v9, v10⟩ hi ⟨g1, g2, g3, g4, g5, g6, g7, g8⟩ => by
      simp only at g1 g2 g3 g4 g5 g6 g7 g8
      obtain ⟨r4, s4, e4, k4, p4, q4, _⟩ := dr_pick g1 (by omega) (n := 20) (by omega)
      obtain ⟨r5, s5, e5, k5, p5, q5, _⟩ := dr_pick k4 (by omega) (n := 9) (by omega)
      obtain ⟨r6, s6, e6, k6, p6, q6, _⟩ := dr_pick k5 (by omega) (n := 9) (by omega)
      obtain ⟨b7, s7, e7, k7⟩ := dr_one k6 (by omega) (n := 3) (by omega)
      have q4' := q4 (by omega)
      have q5' := q5 (by omega)
      have q6' := q6 (by omega)
      have a0 := appO_one v4 (⟨v6, v7, v5⟩ : Point) (by rw [g2.len]; omega)
      have a0' : appS v4 [(⟨v6, v7, v5⟩ : Point)] = some (v4.getD [] ++ [⟨v6, v7, v5⟩]) := appS_cons _ _ _
      have a1 : wr (v6 + v8) = v6 + v8 := wr_id (by omega) (by omega)
      have a2 : wr (v6 + v8 + r5) = v6 + v8 + r5 := wr_id (by omega) (by omega)
      have a3 : wr (v6 + v8 + r5 - 4) = v6 + v8 + r5 - 4 := wr_id (by omega) (by omega)
      have a4 : wr (v7 + v9) = v7 + v9 := wr_id (by omega) (by omega)
      have a5 : wr (v7 + v9 + r6) = v7 + v9 + r6 := wr_id (by omega) (by omega)
      have a6 : wr (v7 + v9 + r6 - 4) = v7 + v9 + r6 - 4 := wr_id (by omega) (by omega)
      have a7 : wr (1 + r4) = 1 + r4 := wr_id (by omega) (by omega)
      have a8 : wr (v5 + (1 + r4)) = v5 + (1 + r4) := wr_id (by omega) (by omega)
      have a9 : wr (v10 - 1) = v10 - 1 := wr_id (by omega) (by omega)
      have c : 0 < v10 := by omega
      have st := g2.step (x := v6) (y := v7) (t' := v5 + (1 + r4)) g4 g5 (by omega) (by omega) (by omega) (by omega)
      cases b7 with
      | true =>
        obtain ⟨r8, s8, e8, k8, p8, q8, _⟩ := dr_pick k7 (by omega) (n := 80) (by omega)
        obtain ⟨r9, s9, e9, k9, p9, q9, _⟩ := dr_pick k8 (by omega) (n := 80) (by omega)
        have q8' := q8 (by omega)
        have q9' := q9 (by omega)
        have b1 : wr (r8 - 40) = r8 - 40 := wr_id (by omega) (by omega)
        have b2 : wr (r9 - 40) = r9 - 40 := wr_id (by omega) (by omega)
        have e : s0_spec_l02DrawStroke (v1, v2, v3, v4, v5, v6, v7, v8, v9, v10) = some (.inl (s9.code, s9.pos, s9.seed, some (v4.getD [] ++ [⟨v6, v7, v5⟩]), v5 + (1 + r4), max 0 (min 4095 (v6 + v8 + r5 - 4)), max 0 (min 4095 (v7 + v9 + r6 - 4)), r8 - 40, r9 - 40, v10 - 1)) := by
          unfold s0_spec_l02DrawStroke
          simp only [c, decide_true, cond_true, e4, e5, e6, e7, e8, e9, obind_sm, a0, a0', a1, a2, a3, a4, a5, a6, a7, a8, a9, b1, b2]
        exact .inl ⟨_, e, k9.mono (by omega), st, ⟨by simp only; omega, by simp only; omega⟩, cl_4095 _, cl_4095 _, ⟨by simp only; omega, by simp only; omega⟩, ⟨by simp only; omega, by simp only; omega⟩, by simp only; omega⟩
      | false =>
        have e : s0_spec_l02DrawStroke (v1, v2, v3, v4, v5, v6, v7, v8, v9, v10) = some (.inl (s7.code, s7.pos, s7.seed, some (v4.getD [] ++ [⟨v6, v7, v5⟩]), v5 + (1 + r4), max 0 (min 4095 (v6 + v8 + r5 - 4)), max 0 (min 4095 (v7 + v9 + r6 - 4)), v8, v9, v10 - 1)) := by
          unfold s0_spec_l02DrawStroke
          simp only [c, decide_true, cond_true, cond_false, e4, e5, e6, e7, obind_sm, a0, a0', a1, a2, a3, a4, a5, a6, a7, a8, a9]
        exact .inl ⟨_, e, k7.mono (by omega), st, ⟨by simp only; omega, by simp only; omega⟩, cl_4095 _, cl_4095 _, g6, g7, by simp only; omega⟩)
    (fun ⟨v1, v2, v3, v4, v5, v6, v7, v8, v9, v10⟩ ⟨g1, g2, g3, g4, g5, g6, g7, g8⟩ => by
      simp only at g1 g2 g3 g8
      have c : ¬ 0 < v10 := by omega
      have e : s0_spec_l02DrawStroke (v1, v2, v3, v4, v5, v6, v7, v8, v9, v10) = some (.inr (v1, v2, v3, v4)) := by
        unfold s0_spec_l02DrawStroke
        simp only [c, decide_false, cond_false]
      refine ⟨_, e, g1, g2.len, g2.som, fun p hp => ?_, g2.inc⟩
      have := g2.pts p hp
      exact ⟨this.1, this.2.1, by omega⟩)
    (s := (s3.code, s3.pos, s3.seed, none, time, x, y, r1 - 20, r2 - 30, 1 + r3)) ⟨k3.mono (by omega), ⟨rfl, fun h => by omega, fun p hp => (by cases hp), fun k p q h1 _ => (by simp at h1)⟩, ⟨by simp only; omega, by simp only; omega⟩, hx, hy, ⟨by simp only; omega, by simp only; omega⟩, ⟨by simp only; omega, by simp only; omega⟩, by simp only; omega⟩
  simp only at f2 f3
  obtain ⟨l, rfl⟩ := f3.som (by omega)
  have hl : l.length = N := f3.len
  rw [f1]
  refine ⟨l, _, rfl, f2.mono (by omega), ⟨fun p hp => (f3.pts p hp).1, f3.inc, by omega, by omega⟩, by omega, fun p hp => ?_⟩
  have := f3.pts p hp
  omega

theorem last_ok {l : List Point} (h : StV l) : ∃ p, t_spec_l02Last ⟨some l⟩ = some p.t ∧ l[l.length - 1]? = some p ∧ p ∈ l ∧ ∀ q ∈ l, q.t ≤ p.t := by
  have h1 := h.n1
  have h2 := h.n2
  obtain ⟨p, hp⟩ : ∃ p, l[l.length - 1]? = some p := ⟨l[l.length - 1], List.getElem?_eq_getElem (by omega)⟩
  have w : wr (((l.length : Nat) : Int) - 1) = ((l.length - 1 : Nat) : Int) := by rw [wr_id (by omega) (by omega)]; omega
  refine ⟨p, ?_, hp, List.mem_of_getElem? hp, fun q hq => ?_⟩
  · unfold t_spec_l02Last
    simp only [Option.getD_some, w, getI_nat hp, obind_sm]
  · obtain ⟨k, hk⟩ := List.mem_iff_getElem?.1 hq
    have key : ∀ (d k : Nat) (a b : Point), l[k]? = some a → l[k + d]? = some b → a.t ≤ b.t := by
      intro d
      induction d with
      | zero => intro k a b h1 h2; rw [Nat.add_zero, h1] at h2; cases h2; exact Int.le_refl _
      | succ d ih =>
        intro k a b h1 h2
        have hlt := get_lt h2
        obtain ⟨m, hm⟩ : ∃ m, l[k + d]? = some m := ⟨l[k + d], List.getElem?_eq_getElem (by omega)⟩
        have := ih k a m h1 hm
        have := h.inc (k + d) m b hm (by rw [Nat.add_assoc]; exact h2)
        omega
    have hk2 := get_lt hk
    exact key (l.length - 1 - k) k q p hk (by rw [← hp]; congr 1; omega)

/-- Ink that is one. -/
structure InkV (L : List Stroke) : Prop where
  st : ∀ s ∈ L, ∃ l, s = ⟨some l⟩ ∧ StV l
  inc : ∀ (k : Nat) l l', L[k]? = some ⟨some l⟩ → L[k + 1]? = some ⟨some l'⟩ → ∀ p ∈ l, ∀ q ∈ l', p.t < q.t
  n : L.length ≤ 16

/-- What the drawing of ink keeps. -/
structure InkI (s : Sl Stroke) (i : Nat) (t : Int) : Prop where
  len : (s.getD []).length = i
  som : 0 < i → ∃ l, s = .some l
  st : ∀ x ∈ s.getD [], ∃ l, x = ⟨some l⟩ ∧ StV l ∧ ∀ p ∈ l, p.t < t
  inc : ∀ (k : Nat) l l', (s.getD [])[k]? = some ⟨some l⟩ → (s.getD [])[k + 1]? = some ⟨some l'⟩ → ∀ p ∈ l, ∀ q ∈ l', p.t < q.t

theorem InkI.step {s : Sl Stroke} {i : Nat} {t t' : Int} {l : List Point} (h : InkI s i t) (hl : StV l) (h0 : ∀ p ∈ l, t ≤ p.t ∧ p.t < t') (ht : t ≤ t') : InkI (some (s.getD [] ++ [⟨some l⟩])) (i + 1) t' := by
  refine ⟨by simp [h.len], fun _ => ⟨_, rfl⟩, fun x hx => ?_, ?_⟩
  · rcases List.mem_append.1 hx with hx | hx
    · obtain ⟨l', e, h1, h2⟩ := h.st x hx
      exact ⟨l', e, h1, fun p hp => Int.lt_of_lt_of_le (h2 p hp) ht⟩
    · simp only [List.mem_singleton] at hx
      exact ⟨l, hx, hl, fun p hp => (h0 p hp).2⟩
  · intro k a b h1 h2
    simp only [Option.getD_some] at h1 h2
    have hk := get_lt h2
    simp only [List.length_append, List.length_cons, List.length_nil] at hk
    rw [List.getElem?_append_left (by omega)] at h1
    by_cases c : k + 1 < (s.getD []).length
    · rw [List.getElem?_append_left c] at h2
      exact h.inc k a b h1 h2
    · have e : k + 1 = (s.getD []).length := by omega
      rw [e, List.getElem?_append_right (Nat.le_refl _), Nat.sub_self] at h2
      simp only [List.getElem?_cons_zero, Option.some.injEq, Stroke.mk.injEq] at h2
      subst h2
      intro p hp q hq
      obtain ⟨l', e', _, h3⟩ := h.st _ (List.mem_of_getElem? h1)
      simp only [Stroke.mk.injEq, Option.some.injEq] at e'
      subst e'
      exact Int.lt_of_lt_of_le (h3 p hp) (h0 q hq).1

theorem dr_ink {s : l00Src} {k : Int} (h : SK s k) (hk : k ≤ 100000000) {most : Int} (h1 : 0 ≤ most) (h2 : most ≤ 10) : ∃ L s', t_spec_l02Draw s most = some (⟨L⟩, s') ∧ SK s' (k + 20000) ∧ InkV (L.getD []) ∧ (L.getD []).length ≤ most := by
  obtain ⟨r1, s1, e1, k1, p1, q1, _⟩ := dr_pick h (by omega) (n := 100) (by omega)
  obtain ⟨r2, s2, e2, k2, p2, q2, _⟩ := dr_pick k1 (by omega) (n := 200) (by omega)
  obtain ⟨r3, s3, e3, k3, p3, q3, _⟩ := dr_pick k2 (by omega) (n := most + 1) (by omega)
  have q1' := q1 (by omega)
  have q2' := q2 (by omega)
  have q3' := q3 (by omega)
  have w0 : wr (most + 1) = most + 1 := wr_id (by omega) (by omega)
  have w1 : wr (100 + r2) = 100 + r2 := wr_id (by omega) (by omega)
  obtain ⟨N, hN⟩ := Int.eq_ofNat_of_zero_le (a := r3) (by omega)
  unfold t_spec_l02Draw
  simp only [e1, e2, w0, e3, obind_sm, w1]
  obtain ⟨⟨c1, c2, c3, c4⟩, f1, f2, f3⟩ := loopT_ex (step := s0_spec_l02Draw) (fun i (t : (Sl UInt8) × Int × Int × (Sl Stroke) × Int × Int × Int) => SK ⟨t.1, t.2.1, t.2.2.1⟩ (k + 6 + 1100 * i) ∧ InkI t.2.2.2.1 i t.2.2.2.2.1 ∧ (0 ≤ t.2.2.2.2.1 ∧ t.2.2.2.2.1 ≤ 100 + 600 * i) ∧
      (0 ≤ t.2.2.2.2.2.1 ∧ t.2.2.2.2.2.1 ≤ 300 + 200 * i) ∧ t.2.2.2.2.2.2 = N - (i : Int))
    N (fun r => SK ⟨r.1, r.2.1, r.2.2.1⟩ (k + 6 + 1100 * N) ∧ ∃ t, InkI r.2.2.2 N t)
    (fun i ⟨v1, v2, v3, v4, v5, v6, v7⟩ hi ⟨g1, g2, g3, g4, g5⟩ => by
      simp only at g1 g2 g3 g4 g5
      obtain ⟨r4, s4, e4, k4, p4, q4, _⟩ := dr_pick g1 (by omega) (n := 200) (by omega)
      have q4' := q4 (by omega)
      have a1 : wr (300 + r4) = 300 + r4 := wr_id (by omega) (by omega)
      obtain ⟨l, s5, e5, k5, sv, _, st⟩ := dr_stroke k4 (by omega) (time := v5) (x := v6) (y := 300 + r4) (by omega) (by omega) (by omega) (by omega)
      obtain ⟨p, e6, _, pm, pl⟩ := last_ok sv
      obtain ⟨r7, s7, e7, k7, p7, q7, _⟩ := dr_pick k5 (by omega) (n := 200) (by omega)
      obtain ⟨r8, s8, e8, k8, p8, q8, _⟩ := dr_pick k7 (by omega) (n := 200) (by omega)
      have q7' := q7 (by omega)
      have q8' := q8 (by omega)
      have pt := st p pm
      have a0 := appO_one v4 (⟨some l⟩ : Stroke) (by rw [g2.len]; omega)
      have a0' : appS v4 [(⟨some l⟩ : Stroke)] = some (v4.getD [] ++ [⟨some l⟩]) := appS_cons _ _ _
      have a2 : wr (p.t + 1) = p.t + 1 := wr_id (by omega) (by omega)
      have a3 : wr (p.t + 1 + r7) = p.t + 1 + r7 := wr_id (by omega) (by omega)
      have a4 : wr (v6 + r8) = v6 + r8 := wr_id (by omega) (by omega)
      have a5 : wr (v7 - 1) = v7 - 1 := wr_id (by omega) (by omega)
      have c : 0 < v7 := by omega
      have e : s0_spec_l02Draw (v1, v2, v3, v4, v5, v6, v7) = some (.inl (s8.code, s8.pos, s8.seed, some (v4.getD [] ++ [⟨some l⟩]), p.t + 1 + r7, v6 + r8, v7 - 1)) := by
        unfold s0_spec_l02Draw
        simp only [c, decide_true, cond_true, e4, a1, e5, e6, e7, e8, obind_sm, a0, a0', a2, a3, a4, a5]
      have nx := g2.step (t' := p.t + 1 + r7) sv (fun q hq => ⟨(st q hq).1, by have := pl q hq; omega⟩) (by omega)
      exact .inl ⟨_, e, k8.mono (by omega), nx, ⟨by simp only; omega, by simp only; omega⟩, ⟨by simp only; omega, by simp only; omega⟩, by simp only; omega⟩)
    (fun ⟨v1, v2, v3, v4, v5, v6, v7⟩ ⟨g1, g2, g3, g4, g5⟩ => by
      simp only at g1 g2 g5
      have c : ¬ 0 < v7 := by omega
      have e : s0_spec_l02Draw (v1, v2, v3, v4, v5, v6, v7) = some (.inr (v1, v2, v3, v4)) := by
        unfold s0_spec_l02Draw
        simp only [c, decide_false, cond_false]
      exact ⟨_, e, g1, v5, g2⟩)
    (s := (s3.code, s3.pos, s3.seed, none, r1, 100 + r2, r3)) ⟨k3.mono (by omega), ⟨rfl, fun h => by omega, fun p hp => (by cases hp), fun k p q h1 _ => (by simp at h1)⟩, ⟨by simp only; omega, by simp only; omega⟩, ⟨by simp only; omega, by simp only; omega⟩, by simp only; omega⟩
  simp only at f2 f3
  obtain ⟨t, f3⟩ := f3
  rw [f1]
  refine ⟨c4, _, rfl, f2.mono (by omega), ⟨fun x hx => ?_, f3.inc, by rw [f3.len]; omega⟩, by rw [f3.len]; omega⟩
  obtain ⟨l, e, h1, _⟩ := f3.st x hx
  exact ⟨l, e, h1⟩

theorem dr_long {n : Int} (h0 : 0 ≤ n) (h1 : n ≤ 100) : ∃ s, t_spec_l02Long n = some s ∧ StB s := by
  obtain ⟨N, rfl⟩ := Int.eq_ofNat_of_zero_le h0
  obtain ⟨r, f1, f2, f3⟩ := loopT_ex (step := s0_spec_l02Long N) (fun i (t : (Sl Point) × Int) => (t.1.getD []).length = i ∧ (∀ p ∈ t.1.getD [], PtB p) ∧ t.2 = (i : Int)) N (fun r => (r.getD []).length = N ∧ ∀ p ∈ r.getD [], PtB p)
    (fun i ⟨v1, v2⟩ hi ⟨g1, g2, g3⟩ => by
      simp only at g1 g2 g3
      subst g3
      have c : (i : Int) < (N : Int) := by omega
      have dv : 0 ≤ Int.tdiv (i : Int) 2 ∧ Int.tdiv (i : Int) 2 ≤ i := by rw [Int.tdiv_eq_ediv_of_nonneg (by omega)]; omega
      have w1 : wr (10 + (i : Int)) = 10 + i := wr_id (by omega) (by omega)
      have w2 : wr (Int.tdiv (i : Int) 2) = Int.tdiv (i : Int) 2 := wr_id (by omega) (by omega)
      have w3 : wr (50 - Int.tdiv (i : Int) 2) = 50 - Int.tdiv (i : Int) 2 := wr_id (by omega) (by omega)
      have w4 : wr (3 * (i : Int)) = 3 * i := wr_id (by omega) (by omega)
      have a0 := appO_one v1 (⟨10 + (i : Int), 50 - Int.tdiv (i : Int) 2, 3 * (i : Int)⟩ : Point) (by omega)
      have a0' : appS v1 [(⟨10 + (i : Int), 50 - Int.tdiv (i : Int) 2, 3 * (i : Int)⟩ : Point)] = some (v1.getD [] ++ [⟨10 + (i : Int), 50 - Int.tdiv (i : Int) 2, 3 * (i : Int)⟩]) := appS_cons _ _ _
      refine .inl ⟨(some (v1.getD [] ++ [⟨10 + (i : Int), 50 - Int.tdiv (i : Int) 2, 3 * (i : Int)⟩]), ((i + 1 : Nat) : Int)), ?_, by simp [g1], fun p hp => ?_, rfl⟩
      · unfold s0_spec_l02Long
        simp only [c, decide_true, cond_true, w1, w2, w3, w4, a0, a0', obind_sm, wr_succ hi (by omega)]
      · rcases List.mem_append.1 hp with hp | hp
        · exact g2 p hp
        · simp only [List.mem_singleton] at hp
          subst hp
          exact ⟨by simp only; omega, by simp only; omega, by simp only; omega, by simp only; omega, by simp only; omega, by simp only; omega⟩)
    (fun ⟨v1, v2⟩ ⟨g1, g2, g3⟩ => by
      simp only at g1 g2 g3
      subst g3
      refine ⟨v1, ?_, g1, g2⟩
      unfold s0_spec_l02Long
      simp only [Int.lt_irrefl, decide_false, cond_false])
    (s := (none, 0)) ⟨rfl, fun p hp => (by cases hp), rfl⟩
  refine ⟨⟨r⟩, ?_, by simp only; omega, f3⟩
  unfold t_spec_l02Long
  simp only [f1, obind_sm]

theorem InkV.b {L : List Stroke} (h : InkV L) : ∀ x ∈ L, StB x := fun x hx => by
  obtain ⟨l, rfl, hl⟩ := h.st x hx
  exact hl.b

theorem set_st {L : List Stroke} {k : Int} {l : List Point} {q : Point} (h : ∀ x ∈ L, StB x) (hl : StB ⟨some l⟩) (hq : PtB q) : ∀ x ∈ (setS (some L) k (⟨setS (some l) 0 q⟩ : Stroke)).getD [], StB x := by
  intro x hx
  simp only [setS, Option.map_some, Option.getD_some] at hx
  rcases List.mem_or_eq_of_mem_set hx with hx | rfl
  · exact h x hx
  · refine ⟨by simpa using hl.n, fun p hp => ?_⟩
    simp only [Option.getD_some] at hp
    rcases List.mem_or_eq_of_mem_set hp with hp | rfl
    · exact hl.pts p (by simpa using hp)
    · exact hq

theorem dr_bent {s : l00Src} {k : Int} (h : SK s k) (hk : k ≤ 10000000) : ∃ L s', t_spec_l02Bent s = some (⟨L⟩, s') ∧ SK s' (k + 30000) ∧ (L.getD []).length ≤ 100 ∧ ∀ x ∈ L.getD [], StB x := by
  obtain ⟨L, s1, e1, k1, iv, il⟩ := dr_ink h (by omega) (most := 5) (by omega) (by omega)
  obtain ⟨r2, s2, e2, k2, p2, q2, _⟩ := dr_pick k1 (by omega) (n := 20) (by omega)
  have q2' := q2 (by omega)
  have ib := iv.b
  have first : 0 < (((L.getD []).length : Nat) : Int) → ∀ r : Int, 0 ≤ r → r < (((L.getD []).length : Nat) : Int) → ∃ L' l p, L = some L' ∧ getI (L.getD []) r = some ⟨some l⟩ ∧ getI l 0 = some p ∧ StV l := fun h0 r hr0 hr1 => by
    obtain ⟨x, hx, hx2⟩ := getI_in hr0 hr1
    obtain ⟨l, rfl, hl⟩ := iv.st x (List.mem_of_getElem? hx2)
    obtain ⟨p, hp, _⟩ := getI_in (l := l) (i := 0) (by omega) (by have := hl.n1; omega)
    cases L with
    | none => simp at h0
    | some L' => exact ⟨L', l, p, rfl, hx, hp, hl⟩
  unfold t_spec_l02Bent
  simp only [e1, e2, obind_sm]
  by_cases c0 : r2 = 0
  · have d0 : decide (r2 = 0) = true := decide_eq_true c0
    have a0 := appO_one L (⟨none⟩ : Stroke) (by omega)
    have a0' : appS L [(⟨none⟩ : Stroke)] = some (L.getD [] ++ [⟨none⟩]) := appS_cons _ _ _
    simp only [d0, cond_true, a0, a0', obind_sm]
    refine ⟨_, _, rfl, k2.mono (by omega), by simp; omega, fun x hx => ?_⟩
    rcases List.mem_append.1 hx with hx | hx
    · exact ib x hx
    · simp only [List.mem_singleton] at hx
      subst hx
      exact ⟨by simp, fun p hp => by cases hp⟩
  have d0 : decide (r2 = 0) = false := decide_eq_false c0
  by_cases c1 : r2 = 1
  · have d1 : decide (r2 = 1) = true := decide_eq_true c1
    by_cases n0 : 0 < (((L.getD []).length : Nat) : Int)
    · obtain ⟨r3, s3, e3, k3, p3, q3, _⟩ := dr_pick k2 (by omega) (n := (((L.getD []).length : Nat) : Int)) (by omega)
      have q3' := q3 (by omega)
      obtain ⟨L', l, p, rfl, g1, g2, hl⟩ := first n0 r3 p3 q3'
      simp only [Option.getD_some] at n0 e3 g1 ib
      obtain ⟨r4, s4, e4, k4, m4⟩ := dr_among k3 (by omega) (l := [-1, 4095, 4096]) (by simp) (by simp)
      simp only [d0, d1, decide_true, decide_false, cond_true, cond_false, n0, e3, obind_sm, g1, Option.getD_some, g2, e4]
      have pb := (hl.pts p (List.mem_of_getElem? (getI_iff.1 g2).2)).b
      refine ⟨_, _, rfl, k4.mono (by omega), by simp only [setS, Option.map_some, Option.getD_some, List.length_set] at il ⊢; omega, set_st ib hl.b ⟨?_, ?_, pb.y0, pb.y1, pb.t0, pb.t1⟩⟩
      all_goals
        simp only [List.mem_cons, List.not_mem_nil, or_false] at m4
        simp only
        omega
    · simp only [d0, d1, decide_true, decide_false, cond_true, cond_false, n0]
      exact ⟨_, _, rfl, k2.mono (by omega), by omega, ib⟩
  have d1 : decide (r2 = 1) = false := decide_eq_false c1
  by_cases c2 : r2 = 2
  · have d2 : decide (r2 = 2) = true := decide_eq_true c2
    by_cases n0 : 0 < (((L.getD []).length : Nat) : Int)
    · obtain ⟨r3, s3, e3, k3, p3, q3, _⟩ := dr_pick k2 (by omega) (n := (((L.getD []).length : Nat) : Int)) (by omega)
      have q3' := q3 (by omega)
      obtain ⟨L', l, p, rfl, g1, g2, hl⟩ := first n0 r3 p3 q3'
      simp only [Option.getD_some] at n0 e3 g1 ib
      obtain ⟨r4, s4, e4, k4, m4⟩ := dr_among k3 (by omega) (l := [-1, 0, 3600000, 3600001]) (by simp) (by simp)
      simp only [d0, d1, d2, decide_true, decide_false, cond_true, cond_false, n0, e3, obind_sm, g1, Option.getD_some, g2, e4]
      have pb := (hl.pts p (List.mem_of_getElem? (getI_iff.1 g2).2)).b
      refine ⟨_, _, rfl, k4.mono (by omega), by simp only [setS, Option.map_some, Option.getD_some, List.length_set] at il ⊢; omega, set_st ib hl.b ⟨pb.x0, pb.x1, pb.y0, pb.y1, ?_, ?_⟩⟩
      all_goals
        simp only [List.mem_cons, List.not_mem_nil, or_false] at m4
        simp only
        omega
    · simp only [d0, d1, d2, decide_true, decide_false, cond_true, cond_false, n0]
      exact ⟨_, _, rfl, k2.mono (by omega), by omega, ib⟩
  have d2 : decide (r2 = 2) = false := decide_eq_false c2
  by_cases c3 : r2 = 3
  · have d3 : decide (r2 = 3) = true := decide_eq_true c3
    obtain ⟨r3, s3, e3, k3, p3, q3, _⟩ := dr_pick k2 (by omega) (n := 2) (by omega)
    have q3' := q3 (by omega)
    have w : wr (60 + r3) = 60 + r3 := wr_id (by omega) (by omega)
    obtain ⟨x, e4, hx⟩ := dr_long (n := 60 + r3) (by omega) (by omega)
    simp only [d0, d1, d2, d3, decide_true, decide_false, cond_true, cond_false, e3, w, e4, obind_sm]
    refine ⟨_, _, rfl, k3.mono (by omega), by simp, fun y hy => ?_⟩
    simp only [Option.getD_some, List.mem_singleton] at hy
    subst hy
    exact hx
  have d3 : decide (r2 = 3) = false := decide_eq_false c3
  by_cases c4 : r2 = 4
  · have d4 : decide (r2 = 4) = true := decide_eq_true c4
    obtain ⟨r3, s3, e3, k3, p3, q3, _⟩ := dr_pick k2 (by omega) (n := 2) (by omega)
    have q3' := q3 (by omega)
    have w : wr (16 + r3) = 16 + r3 := wr_id (by omega) (by omega)
    obtain ⟨N, hN⟩ := Int.eq_ofNat_of_zero_le (a := 16 + r3) (by omega)
    obtain ⟨r, f1, f2, f3⟩ := loopT_ex (step := s0_spec_l02Bent (r3, s3)) (fun i (t : (Sl Stroke) × Int) => (t.1.getD []).length = i ∧ (∀ p ∈ t.1.getD [], StB p) ∧ t.2 = (i : Int)) N (fun r => (r.getD []).length = N ∧ ∀ p ∈ r.getD [], StB p)
      (fun i ⟨v1, v2⟩ hi ⟨g1, g2, g3⟩ => by
        simp only at g1 g2 g3
        subst g3
        have c : (i : Int) < 16 + r3 := by omega
        have a0 := appO_one v1 (⟨some [⟨(i : Int), 5, (i : Int)⟩]⟩ : Stroke) (by omega)
        have a0' : appS v1 [(⟨some [⟨(i : Int), 5, (i : Int)⟩]⟩ : Stroke)] = some (v1.getD [] ++ [⟨some [⟨(i : Int), 5, (i : Int)⟩]⟩]) := appS_cons _ _ _
        refine .inl ⟨(some (v1.getD [] ++ [⟨some [⟨(i : Int), 5, (i : Int)⟩]⟩]), ((i + 1 : Nat) : Int)), ?_, by simp [g1], fun p hp => ?_, rfl⟩
        · unfold s0_spec_l02Bent
          simp only [w, c, decide_true, cond_true, a0, a0', obind_sm, wr_succ hi (by omega)]
        · rcases List.mem_append.1 hp with hp | hp
          · exact g2 p hp
          · simp only [List.mem_singleton] at hp
            subst hp
            refine ⟨by simp, fun q hq => ?_⟩
            simp only [Option.getD_some, List.mem_singleton] at hq
            subst hq
            exact ⟨by simp only; omega, by simp only; omega, by simp only; omega, by simp only; omega, by simp only; omega, by simp only; omega⟩)
      (fun ⟨v1, v2⟩ ⟨g1, g2, g3⟩ => by
        simp only at g1 g2 g3
        subst g3
        have c : ¬ (N : Int) < 16 + r3 := by omega
        refine ⟨v1, ?_, g1, g2⟩
        unfold s0_spec_l02Bent
        simp only [w, c, decide_false, cond_false])
      (s := (none, 0)) ⟨rfl, fun p hp => (by cases hp), rfl⟩
    simp only [d0, d1, d2, d3, d4, decide_true, decide_false, cond_true, cond_false, e3, f1, obind_sm]
    exact ⟨_, _, rfl, k3.mono (by omega), by omega, f3⟩
  · have d4 : decide (r2 = 4) = false := decide_eq_false c4
    simp only [d0, d1, d2, d3, d4, cond_false]
    exact ⟨_, _, rfl, k2.mono (by omega), by omega, ib⟩

theorem dr_l05 {s : l00Src} {k : Int} (h : SK s k) (hk : k ≤ 1000000) : ∃ st s', t_spec_l05Stroke s = some (st, s') ∧ SK s' (k + 40000) ∧ StB st := by
  obtain ⟨b1, s1, e1, k1⟩ := dr_one h (by omega) (n := 12) (by omega)
  unfold t_spec_l05Stroke
  simp only [e1, obind_sm]
  cases b1 with
  | true =>
    obtain ⟨L, s2, e2, k2, ll, lb⟩ := dr_bent k1 (by omega)
    simp only [cond_true, e2, obind_sm]
    by_cases n0 : 0 < (((L.getD []).length : Nat) : Int)
    · obtain ⟨x, g1, g2⟩ := getI_in (l := L.getD []) (i := 0) (by omega) (by omega)
      simp only [n0, decide_true, cond_true, g1, obind_sm]
      exact ⟨_, _, rfl, k2.mono (by omega), lb _ (List.mem_of_getElem? g2)⟩
    · simp only [n0, decide_false, cond_false]
      exact ⟨_, _, rfl, k2.mono (by omega), by simp, fun p hp => by cases hp⟩
  | false =>
    obtain ⟨b2, s2, e2, k2⟩ := dr_one k1 (by omega) (n := 2) (by omega)
    simp only [cond_false, e2, obind_sm]
    cases b2 with
    | true =>
      obtain ⟨r3, s3, e3, k3, p3, q3, _⟩ := dr_pick k2 (by omega) (n := 60) (by omega)
      obtain ⟨r4, s4, e4, k4, p4, q4, _⟩ := dr_pick k3 (by omega) (n := 60) (by omega)
      have q3' := q3 (by omega)
      have q4' := q4 (by omega)
      have w1 : wr (300 + r3) = 300 + r3 := wr_id (by omega) (by omega)
      have w2 : wr (300 + r4) = 300 + r4 := wr_id (by omega) (by omega)
      obtain ⟨l, s5, e5, k5, sv, _, _⟩ := dr_stroke k4 (by omega) (time := 5) (x := 300 + r3) (y := 300 + r4) (by omega) (by omega) (by omega) (by omega)
      simp only [cond_true, e3, e4, w1, w2, e5, obind_sm]
      exact ⟨_, _, rfl, k5.mono (by omega), sv.b⟩
    | false =>
      obtain ⟨r3, s3, e3, k3, p3, q3, _⟩ := dr_pick k2 (by omega) (n := 7) (by omega)
      have q3' := q3 (by omega)
      have w1 : wr (1 + r3) = 1 + r3 := wr_id (by omega) (by omega)
      obtain ⟨N, hN⟩ := Int.eq_ofNat_of_zero_le (a := 1 + r3) (by omega)
      obtain ⟨⟨c1, c2, c3, c4⟩, f1, f2, f3, f4⟩ := loopT_ex (step := s0_spec_l05Stroke) (fun i (t : (Sl UInt8) × Int × Int × (Sl Point) × Int) => SK ⟨t.1, t.2.1, t.2.2.1⟩ (k + 6 + 4 * i) ∧ (t.2.2.2.1.getD []).length = i ∧ (∀ p ∈ t.2.2.2.1.getD [], PtB p) ∧ t.2.2.2.2 = N - (i : Int))
        N (fun r => SK ⟨r.1, r.2.1, r.2.2.1⟩ (k + 6 + 4 * N) ∧ (r.2.2.2.getD []).length = N ∧ ∀ p ∈ r.2.2.2.getD [], PtB p)
        (fun i ⟨v1, v2, v3, v4, v5⟩ hi ⟨g1, g2, g3, g4⟩ => by
          simp only at g1 g2 g3 g4
          obtain ⟨r4, s4, e4, k4, p4, q4, _⟩ := dr_pick g1 (by omega) (n := 9) (by omega)
          obtain ⟨r5, s5, e5, k5, p5, q5, _⟩ := dr_pick k4 (by omega) (n := 9) (by omega)
          have q4' := q4 (by omega)
          have q5' := q5 (by omega)
          have a0 := appO_one v4 (⟨r4, r5, (((v4.getD []).length : Nat) : Int)⟩ : Point) (by omega)
          have a0' : appS v4 [(⟨r4, r5, (((v4.getD []).length : Nat) : Int)⟩ : Point)] = some (v4.getD [] ++ [⟨r4, r5, (((v4.getD []).length : Nat) : Int)⟩]) := appS_cons _ _ _
          have a5 : wr (v5 - 1) = v5 - 1 := wr_id (by omega) (by omega)
          have c : 0 < v5 := by omega
          have e : s0_spec_l05Stroke (v1, v2, v3, v4, v5) = some (.inl (s5.code, s5.pos, s5.seed, some (v4.getD [] ++ [⟨r4, r5, (((v4.getD []).length : Nat) : Int)⟩]), v5 - 1)) := by
            unfold s0_spec_l05Stroke
            simp only [c, decide_true, cond_true, e4, e5, obind_sm, a0, a0', a5]
          refine .inl ⟨_, e, k5.mono (by omega), by simp [g2], fun p hp => ?_, by simp only; omega⟩
          rcases List.mem_append.1 hp with hp | hp
          · exact g3 p hp
          · simp only [List.mem_singleton] at hp
            subst hp
            exact ⟨by simp only; omega, by simp only; omega, by simp only; omega, by simp only; omega, by simp only; omega, by simp only; omega⟩)
        (fun ⟨v1, v2, v3, v4, v5⟩ ⟨g1, g2, g3, g4⟩ => by
          simp only at g1 g2 g3 g4
          have c : ¬ 0 < v5 := by omega
          have e : s0_spec_l05Stroke (v1, v2, v3, v4, v5) = some (.inr (v1, v2, v3, v4)) := by
            unfold s0_spec_l05Stroke
            simp only [c, decide_false, cond_false]
          exact ⟨_, e, g1, g2, g3⟩)
        (s := (s3.code, s3.pos, s3.seed, none, 1 + r3)) ⟨k3.mono (by omega), rfl, fun p hp => (by cases hp), by simp only; omega⟩
      simp only at f2 f3 f4
      simp only [cond_false, e3, w1, obind_sm]
      rw [f1]
      exact ⟨_, _, rfl, f2.mono (by omega), by simp only; omega, f4⟩

def vP (p : Point) : Bool := within p.x 0 4095 && within p.y 0 4095 && within p.t 0 3600000

def fV (l : List Point) (k : Nat) (a : Point) : Option Bool := bif (!vP a || (decide (0 < k) && decide (a.t ≤ (l.getD (k - 1) ⟨0, 0, 0⟩).t))) then some false else none

/-- The points are those of a stroke that is one. -/
def vS (l : List Point) : Bool := match firstL (fV l) l 0 with
  | none => decide (1 ≤ l.length) && decide (l.length ≤ 60)
  | some r => r

theorem validPoint_vP (p : Point) : t_impl_validPoint p = some (vP p) := by
  unfold t_impl_validPoint vP
  simp only [obind_sm]
  cases within p.x 0 4095 <;> cases within p.y 0 4095 <;> cases within p.t 0 3600000 <;> rfl

theorem l02Point_vP (p : Point) : t_spec_l02Point p = some (vP p) := by
  unfold t_spec_l02Point vP
  simp only [obind_sm]
  cases within p.x 0 4095 <;> cases within p.y 0 4095 <;> cases within p.t 0 3600000 <;> rfl

theorem vP_iff {p : Point} : vP p = true ↔ PtV p := by
  unfold vP within
  simp only [Bool.and_eq_true, decide_eq_true_eq]
  constructor
  · rintro ⟨⟨⟨h1, h2⟩, h3, h4⟩, h5, h6⟩
    exact ⟨h1, h2, h3, h4, h5, h6⟩
  · rintro ⟨h1, h2, h3, h4, h5, h6⟩
    exact ⟨⟨⟨h1, h2⟩, h3, h4⟩, h5, h6⟩

theorem prev_get {A : Type} {l : List A} {k : Nat} {d : A} (hk : k < l.length) (h0 : 0 < k) (hl : l.length ≤ 4294967296) : getI l (wr ((k : Int) - 1)) = some (l.getD (k - 1) d) := by
  have w : wr ((k : Int) - 1) = ((k - 1 : Nat) : Int) := by rw [wr_id (by omega) (by omega)]; omega
  rw [w]
  apply getI_nat
  rw [List.getD_eq_getElem?_getD, List.getElem?_eq_getElem (by omega)]
  rfl

theorem validStroke_vS (s : Stroke) (hl : (s.points.getD []).length ≤ 4294967296) : t_impl_ValidStroke s = some (vS (s.points.getD [])) := by
  obtain ⟨l, hL⟩ : ∃ l, s.points.getD [] = l := ⟨_, rfl⟩
  rw [hL] at hl ⊢
  have lp := loopT_first (step := s0_impl_ValidStroke s) l (fV l) (.inl ()) .inr
    (fun k a ha => by
      have hk := get_lt ha
      have c : (k : Int) < (l.length : Nat) := by omega
      have ws := wr_succ hk hl
      unfold s0_impl_ValidStroke fV
      simp only [hL, c, decide_true, cond_true, getI_nat ha, obind_sm, validPoint_vP, ws]
      by_cases k0 : k = 0
      · have D1 : decide ((0 : Int) < (k : Int)) = false := decide_eq_false (by omega)
        have D2 : decide (0 < k) = false := decide_eq_false (by omega)
        rw [D1, D2]
        cases vP a <;> rfl
      · have D1 : decide ((0 : Int) < (k : Int)) = true := decide_eq_true (by omega)
        have D2 : decide (0 < k) = true := decide_eq_true (by omega)
        rw [D1, D2, prev_get (d := ⟨0, 0, 0⟩) hk (by omega) hl]
        simp only [obind_sm]
        cases vP a <;> cases decide (a.t ≤ (l.getD (k - 1) ⟨0, 0, 0⟩).t) <;> rfl)
    (by
      unfold s0_impl_ValidStroke
      simp only [hL, Int.lt_irrefl, decide_false, cond_false])
  have d1 : decide ((1 : Int) ≤ ((l.length : Nat) : Int)) = decide (1 ≤ l.length) := decide_eq_decide.2 (by omega)
  have d2 : decide (((l.length : Nat) : Int) ≤ 60) = decide (l.length ≤ 60) := decide_eq_decide.2 (by omega)
  unfold t_impl_ValidStroke vS
  rw [lp]
  cases firstL (fV l) l 0 with
  | none =>
    simp only [obind_sm, hL, d1, d2]
    cases decide (1 ≤ l.length) <;> cases decide (l.length ≤ 60) <;> rfl
  | some r => rfl

theorem l02Stroke_vS (s : Stroke) (hl : (s.points.getD []).length ≤ 4294967296) : t_spec_l02Stroke s = some (vS (s.points.getD [])) := by
  obtain ⟨l, hL⟩ : ∃ l, s.points.getD [] = l := ⟨_, rfl⟩
  rw [hL] at hl ⊢
  have lp := loopT_first (step := s0_spec_l02Stroke s) l (fV l) (.inl ()) .inr
    (fun k a ha => by
      have hk := get_lt ha
      have c : (k : Int) < (l.length : Nat) := by omega
      have ws := wr_succ hk hl
      unfold s0_spec_l02Stroke fV
      simp only [hL, c, decide_true, cond_true, getI_nat ha, obind_sm, l02Point_vP, ws]
      by_cases k0 : k = 0
      · have D1 : decide ((0 : Int) < (k : Int)) = false := decide_eq_false (by omega)
        have D2 : decide (0 < k) = false := decide_eq_false (by omega)
        rw [D1, D2]
        cases vP a <;> rfl
      · have D1 : decide ((0 : Int) < (k : Int)) = true := decide_eq_true (by omega)
        have D2 : decide (0 < k) = true := decide_eq_true (by omega)
        rw [D1, D2, prev_get (d := ⟨0, 0, 0⟩) hk (by omega) hl]
        simp only [obind_sm]
        cases vP a <;> cases decide (a.t ≤ (l.getD (k - 1) ⟨0, 0, 0⟩).t) <;> rfl)
    (by
      unfold s0_spec_l02Stroke
      simp only [hL, Int.lt_irrefl, decide_false, cond_false])
  have d1 : within ((l.length : Nat) : Int) 1 60 = (decide (1 ≤ l.length) && decide (l.length ≤ 60)) := by
    unfold within
    congr 1 <;> exact decide_eq_decide.2 (by omega)
  unfold t_spec_l02Stroke vS
  rw [lp]
  cases firstL (fV l) l 0 with
  | none =>
    simp only [obind_sm, hL, d1]
  | some r => rfl

theorem firstL_no {A R : Type} {f : Nat → A → Option R} : ∀ {l : List A} {k : Nat}, firstL f l k = none → ∀ i a, l[i]? = some a → f (k + i) a = none
  | [], _, _, i, a, ha => by simp at ha
  | b :: l, k, h, i, a, ha => by
    unfold firstL at h
    cases e : f k b with
    | some r => rw [e] at h; cases h
    | none =>
      rw [e] at h
      cases i with
      | zero =>
        simp only [List.getElem?_cons_zero, Option.some.injEq] at ha
        subst ha
        exact e
      | succ i =>
        have := firstL_no h i a (by simpa using ha)
        rw [← this]
        congr 1
        omega

theorem firstL_so {A R : Type} {f : Nat → A → Option R} : ∀ {l : List A} {k : Nat} {r : R}, firstL f l k = some r → ∃ i a, f i a = some r
  | [], _, _, h => by cases h
  | b :: l, k, r, h => by
    unfold firstL at h
    cases e : f k b with
    | some r' => rw [e] at h; cases h; exact ⟨k, b, e⟩
    | none => rw [e] at h; exact firstL_so h

theorem vS_iff {l : List Point} : vS l = true ↔ StV l := by
  unfold vS
  constructor
  · intro h
    cases e : firstL (fV l) l 0 with
    | some r =>
      rw [e] at h
      simp only at h
      subst h
      obtain ⟨i, a, hf⟩ := firstL_so e
      unfold fV at hf
      cases h2 : (!vP a || (decide (0 < i) && decide (a.t ≤ (l.getD (i - 1) ⟨0, 0, 0⟩).t))) <;> rw [h2] at hf <;> cases hf
    | none =>
      rw [e] at h
      simp only [Bool.and_eq_true, decide_eq_true_eq] at h
      have no := firstL_no e
      have no' : ∀ i a, l[i]? = some a → vP a = true ∧ (0 < i → (l.getD (i - 1) ⟨0, 0, 0⟩).t < a.t) := fun i a ha => by
        have h1 := no i a ha
        rw [Nat.zero_add] at h1
        unfold fV at h1
        cases h2 : (!vP a || (decide (0 < i) && decide (a.t ≤ (l.getD (i - 1) ⟨0, 0, 0⟩).t))) with
        | true => rw [h2] at h1; cases h1
        | false =>
          simp only [Bool.or_eq_false_iff, Bool.not_eq_false', Bool.and_eq_false_iff, decide_eq_false_iff_not] at h2
          exact ⟨h2.1, fun h3 => by rcases h2.2 with h4 | h4 <;> omega⟩
      refine ⟨fun p hp => ?_, fun k p q h1 h2 => ?_, h.1, h.2⟩
      · obtain ⟨i, hi⟩ := List.mem_iff_getElem?.1 hp
        exact vP_iff.1 (no' i p hi).1
      · have h3 := (no' (k + 1) q h2).2 (by omega)
        rw [Nat.add_sub_cancel, List.getD_eq_getElem?_getD, h1] at h3
        exact h3
  · intro h
    have e : firstL (fV l) l 0 = none := firstL_none fun i a ha => by
      rw [Nat.zero_add]
      unfold fV
      have h1 := vP_iff.2 (h.pts a (List.mem_of_getElem? ha))
      have h2 : (decide (0 < i) && decide (a.t ≤ (l.getD (i - 1) ⟨0, 0, 0⟩).t)) = false := by
        by_cases c : 0 < i
        · obtain ⟨p, hp⟩ : ∃ p, l[i - 1]? = some p := ⟨l[i - 1]'(by have := get_lt ha; omega), List.getElem?_eq_getElem _⟩
          have h3 := h.inc (i - 1) p a hp (by rw [Nat.sub_add_cancel c]; exact ha)
          rw [List.getD_eq_getElem?_getD, hp]
          have : ¬ a.t ≤ p.t := by omega
          simp [this]
        · simp [c]
      rw [h1, h2]
      rfl
    rw [e]
    have h1 := h.n1
    have h2 := h.n2
    simp [h1, h2]

theorem StB.le {s : Stroke} (h : StB s) : (s.points.getD []).length ≤ 4294967296 := Nat.le_trans h.n (by omega)

def sumN (f : Nat → Int) : Nat → Int
  | 0 => 0
  | k + 1 => sumN f k + f k

def pt (l : List Point) (i : Nat) : Point := l.getD i ⟨0, 0, 0⟩

theorem get_pt {l : List Point} {i : Nat} (h : i < l.length) : getI l ((i : Nat) : Int) = some (pt l i) := by
  apply getI_nat
  unfold pt
  rw [List.getD_eq_getElem?_getD, List.getElem?_eq_getElem h]
  rfl

theorem dr_point {s : l00Src} {k : Int} (h : SK s k) (hk : k ≤ 100000000) : ∃ p s', t_spec_l05DrawPoint s = some (p, s') ∧ SK s' (k + 100) := by
  obtain ⟨r1, s1, e1, k1, _, _, _⟩ := dr_pick h (by omega) (n := 12) (by omega)
  obtain ⟨r2, s2, e2, k2, _, _, _⟩ := dr_pick k1 (by omega) (n := 12) (by omega)
  obtain ⟨b3, s3, e3, k3⟩ := dr_one k2 (by omega) (n := 4) (by omega)
  unfold t_spec_l05DrawPoint
  simp only [e1, e2, e3, obind_sm]
  have tail : ∀ (s4 : l00Src) (k4 : Int), SK s4 k4 → k4 ≤ k + 20 → ∀ x : Int, ∃ p s', (obind (t_spec_l00Src_pick s4 30) fun c30 =>
    bif decide (c30.1 = 0) then
      obind (t_spec_l00Src_among c30.2 (some ([(-1), 4095, 4096] : List Int))) fun c41 =>
      obind (t_spec_l00Src_pick c41.2 50) fun c47 =>
      some ((⟨c41.1, r2, c47.1⟩ : Point), (⟨c47.2.code, c47.2.pos, c47.2.seed⟩ : l00Src))
    else
      bif decide (c30.1 = 1) then
        obind (t_spec_l00Src_among c30.2 (some ([(-1), 4095, 4096] : List Int))) fun c61 =>
        obind (t_spec_l00Src_pick c61.2 50) fun c67 =>
        some ((⟨x, c61.1, c67.1⟩ : Point), (⟨c67.2.code, c67.2.pos, c67.2.seed⟩ : l00Src))
      else
        obind (t_spec_l00Src_pick c30.2 50) fun c76 =>
        some ((⟨x, r2, c76.1⟩ : Point), (⟨c76.2.code, c76.2.pos, c76.2.seed⟩ : l00Src))) = some (p, s') ∧ SK s' (k + 100) := by
    intro s4 k4 h4 hk4 x
    obtain ⟨r5, s5, e5, k5, _, _, _⟩ := dr_pick h4 (by omega) (n := 30) (by omega)
    rw [e5, obind_sm]
    by_cases c0 : r5 = 0
    · obtain ⟨r6, s6, e6, k6, _⟩ := dr_among k5 (by omega) (l := [-1, 4095, 4096]) (by simp) (by simp)
      obtain ⟨r7, s7, e7, k7, _, _, _⟩ := dr_pick k6 (by omega) (n := 50) (by omega)
      simp only [c0, decide_true, cond_true, e6, e7, obind_sm]
      exact ⟨_, _, rfl, k7.mono (by omega)⟩
    by_cases c1 : r5 = 1
    · obtain ⟨r6, s6, e6, k6, _⟩ := dr_among k5 (by omega) (l := [-1, 4095, 4096]) (by simp) (by simp)
      obtain ⟨r7, s7, e7, k7, _, _, _⟩ := dr_pick k6 (by omega) (n := 50) (by omega)
      have d0 : decide (r5 = 0) = false := decide_eq_false c0
      have d1 : decide (r5 = 1) = true := decide_eq_true c1
      simp only [d0, d1, cond_true, cond_false, e6, e7, obind_sm]
      exact ⟨_, _, rfl, k7.mono (by omega)⟩
    · obtain ⟨r7, s7, e7, k7, _, _, _⟩ := dr_pick k5 (by omega) (n := 50) (by omega)
      simp only [c0, c1, decide_false, cond_false, e7, obind_sm]
      exact ⟨_, _, rfl, k7.mono (by omega)⟩
  cases b3 with
  | true =>
    obtain ⟨r4, s4, e4, k4, _, _, _⟩ := dr_pick k3 (by omega) (n := 4096) (by omega)
    simp only [cond_true, e4, obind_sm]
    exact tail s4 _ k4 (by omega) r4
  | false =>
    simp only [cond_false]
    exact tail s3 _ k3 (by omega) r1

/-- One pair lies ahead of another. -/
def Pre (p q i j : Nat) : Prop := (i = p + 1 ∧ j = q + 1) ∨ (i = p + 1 ∧ j = q) ∨ (i = p ∧ j = q + 1)

/-- A path's cost, from the first pair on. -/
inductive Pth (C : Nat → Nat → Int) (R : Nat → Nat → Prop) : Nat → Nat → Int → Prop
  | start : R 0 0 → Pth C R 0 0 (C 0 0)
  | step {p q i j : Nat} {c : Int} : Pth C R p q c → Pre p q i j → R i j → Pth C R i j (c + C i j)

/-- The least cost of the paths to a pair, `B` where there is none. -/
def Opt (B : Int) (C : Nat → Nat → Int) (R : Nat → Nat → Prop) (i j : Nat) (v : Int) : Prop :=
  (v = B ∧ ∀ c, ¬ Pth C R i j c) ∨ (v < B ∧ Pth C R i j v ∧ ∀ c, Pth C R i j c → v ≤ c)

theorem Opt.le {B : Int} {C : Nat → Nat → Int} {R : Nat → Nat → Prop} {i j : Nat} {v : Int} (h : Opt B C R i j v) : v ≤ B := by
  rcases h with ⟨h, _⟩ | ⟨h, _⟩ <;> omega

theorem Pth.mono {C D : Nat → Nat → Int} {R S : Nat → Nat → Prop} {i j : Nat} {c : Int} (h : Pth C R i j c) (hR : ∀ p q, p ≤ i → q ≤ j → R p q → S p q) (hC : ∀ p q, p ≤ i → q ≤ j → C p q = D p q) : Pth D S i j c := by
  induction h with
  | start h =>
    rw [hC 0 0 (Nat.le_refl _) (Nat.le_refl _)]
    exact .start (hR 0 0 (Nat.le_refl _) (Nat.le_refl _) h)
  | @step p q i j c h1 h2 h3 ih =>
    have hle : p ≤ i ∧ q ≤ j := by rcases h2 with h | h | h <;> omega
    rw [hC i j (Nat.le_refl _) (Nat.le_refl _)]
    exact .step (ih (fun a b h4 h5 => hR a b (by omega) (by omega)) (fun a b h4 h5 => hC a b (by omega) (by omega))) h2 (hR i j (Nat.le_refl _) (Nat.le_refl _) h3)

def fAt (l : List Feat) (i : Nat) : Feat := l.getD i ⟨0, 0, 0⟩

def siz (x : Int) : Int := if x < 0 then -x else x

def fcost (a b : Feat) : Int := siz (a.x - b.x) + siz (a.y - b.y) + 16 * min (siz (a.d - b.d)) (8 - siz (a.d - b.d))

/-- A table's entry. -/
def Val (T : List (Sl Int)) (p q : Nat) (v : Int) : Prop := ∃ row, T[p]? = some (some row) ∧ row[q]? = some v

abbrev far : Int := 1099511627776

abbrev elC (a b : List Feat) : Nat → Nat → Int := fun i j => fcost (fAt a i) (fAt b j)

abbrev elR (band : Int) : Nat → Nat → Prop := fun i j => siz ((i : Int) - (j : Int)) ≤ band

/-- The table's rows ahead of `i`, and `j` entries of row `i`, are the least costs. -/
structure Tbl (a b : List Feat) (band : Int) (i j : Nat) (T : List (Sl Int)) : Prop where
  len : T.length = a.length
  val : ∀ p q, q < b.length → (p < i ∨ p = i ∧ q < j) → ∃ v, Val T p q v ∧ Opt far (elC a b) (elR band) p q v

theorem Val.set {T : List (Sl Int)} {i j p q : Nat} {row : List Int} {v w : Int} (hr : T[i]? = some (some row)) (hj : j < row.length) :
    Val (T.set i (some (row.set j w))) p q v ↔ (p = i ∧ q = j ∧ v = w) ∨ (¬ (p = i ∧ q = j) ∧ Val T p q v) := by
  have hi := get_lt hr
  unfold Val
  constructor
  · rintro ⟨r, h1, h2⟩
    by_cases c : i = p
    · subst c
      rw [List.getElem?_set_self hi] at h1
      cases h1
      by_cases d : j = q
      · subst d
        rw [List.getElem?_set_self hj] at h2
        cases h2
        exact .inl ⟨rfl, rfl, rfl⟩
      · rw [List.getElem?_set_ne d] at h2
        exact .inr ⟨fun h => d h.2.symm, row, hr, h2⟩
    · rw [List.getElem?_set_ne c] at h1
      exact .inr ⟨fun h => c h.1.symm, r, h1, h2⟩
  · rintro (⟨rfl, rfl, rfl⟩ | ⟨hne, r, h1, h2⟩)
    · exact ⟨_, List.getElem?_set_self hi, List.getElem?_set_self hj⟩
    · by_cases c : i = p
      · subst c
        rw [hr] at h1
        cases h1
        have d : j ≠ q := fun h => hne ⟨rfl, h.symm⟩
        exact ⟨_, List.getElem?_set_self hi, by rw [List.getElem?_set_ne d]; exact h2⟩
      · exact ⟨r, by rw [List.getElem?_set_ne c]; exact h1, h2⟩

theorem Tbl.step {a b : List Feat} {band : Int} {i j : Nat} {T : List (Sl Int)} {row : List Int} {v : Int} (h : Tbl a b band i j T) (hr : T[i]? = some (some row)) (hj : j < row.length) (ho : Opt far (elC a b) (elR band) i j v) : Tbl a b band i (j + 1) (T.set i (some (row.set j v))) := by
  refine ⟨by simp [h.len], fun p q hq hpq => ?_⟩
  by_cases e : p = i ∧ q = j
  · obtain ⟨rfl, rfl⟩ := e
    exact ⟨v, (Val.set hr hj).2 (.inl ⟨rfl, rfl, rfl⟩), ho⟩
  · obtain ⟨w, h1, h2⟩ := h.val p q hq (by omega)
    exact ⟨w, (Val.set hr hj).2 (.inr ⟨e, h1⟩), h2⟩

/-- A path through rows from the first one on, from any column `f`. -/
def PF (C : Nat → Nat → Int) (f i j : Nat) (c : Int) : Prop := f ≤ j ∧ Pth (fun p q => C p (q + f)) (fun _ _ => True) i (j - f) c

theorem PF.start {C : Nat → Nat → Int} (j : Nat) : PF C j 0 j (C 0 j) := by
  refine ⟨Nat.le_refl _, ?_⟩
  have h := Pth.start (C := fun p q => C p (q + j)) (R := fun _ _ => True) trivial
  simp only [Nat.zero_add] at h
  rw [Nat.sub_self]
  exact h

theorem PF.step {C : Nat → Nat → Int} {f p q i j : Nat} {c : Int} (h : PF C f p q c) (hp : Pre p q i j) : PF C f i j (c + C i j) := by
  obtain ⟨h1, h2⟩ := h
  have hj : q ≤ j := by unfold Pre at hp; omega
  refine ⟨by omega, ?_⟩
  have h3 : Pth (fun p q => C p (q + f)) (fun _ _ => True) i (j - f) (c + C i (j - f + f)) := Pth.step (i := i) (j := j - f) h2 (by unfold Pre at *; omega) trivial
  rw [Nat.sub_add_cancel (by omega)] at h3
  exact h3

/-- The least of the paths to a pair, and where it begins. -/
def PO (C : Nat → Nat → Int) (i j : Nat) (x : Part) : Prop := ∃ f : Nat, x.frm = (f : Int) ∧ PF C f i j x.cost ∧ ∀ g c, PF C g i j c → x.cost ≤ c

def PVal (T : List (Sl Part)) (p q : Nat) (v : Part) : Prop := ∃ row, T[p]? = some (some row) ∧ row[q]? = some v

theorem PVal.set {T : List (Sl Part)} {i j p q : Nat} {row : List Part} {v w : Part} (hr : T[i]? = some (some row)) (hj : j < row.length) :
    PVal (T.set i (some (row.set j w))) p q v ↔ (p = i ∧ q = j ∧ v = w) ∨ (¬ (p = i ∧ q = j) ∧ PVal T p q v) := by
  have hi := get_lt hr
  unfold PVal
  constructor
  · rintro ⟨r, h1, h2⟩
    by_cases c : i = p
    · subst c
      rw [List.getElem?_set_self hi] at h1
      cases h1
      by_cases d : j = q
      · subst d
        rw [List.getElem?_set_self hj] at h2
        cases h2
        exact .inl ⟨rfl, rfl, rfl⟩
      · rw [List.getElem?_set_ne d] at h2
        exact .inr ⟨fun h => d h.2.symm, row, hr, h2⟩
    · rw [List.getElem?_set_ne c] at h1
      exact .inr ⟨fun h => c h.1.symm, r, h1, h2⟩
  · rintro (⟨rfl, rfl, rfl⟩ | ⟨hne, r, h1, h2⟩)
    · exact ⟨_, List.getElem?_set_self hi, List.getElem?_set_self hj⟩
    · by_cases c : i = p
      · subst c
        rw [hr] at h1
        cases h1
        have d : j ≠ q := fun h => hne ⟨rfl, h.symm⟩
        exact ⟨_, List.getElem?_set_self hi, by rw [List.getElem?_set_ne d]; exact h2⟩
      · exact ⟨r, by rw [List.getElem?_set_ne c]; exact h1, h2⟩

/-- The entries ahead of a place are the least parts. -/
structure PTbl (a b : List Feat) (i j : Nat) (T : List (Sl Part)) : Prop where
  len : T.length = a.length
  rows : ∀ (k : Nat) (row : List Part), T[k]? = some (some row) → row.length = b.length
  val : ∀ p q, q < b.length → (p < i ∨ p = i ∧ q < j) → ∃ v, PVal T p q v ∧ PO (elC a b) p q v

theorem rows_set {m : Nat} {T : List (Sl Part)} {i : Nat} {r : List Part} (h : ∀ (k : Nat) (row : List Part), T[k]? = some (some row) → row.length = m) (hr : r.length = m) : ∀ (k : Nat) (row : List Part), (T.set i (some r))[k]? = some (some row) → row.length = m := by
  intro k row hk
  by_cases c : i = k
  · subst c
    have hlt := get_lt hk
    rw [List.length_set] at hlt
    rw [List.getElem?_set_self hlt] at hk
    cases hk
    exact hr
  · rw [List.getElem?_set_ne c] at hk
    exact h k row hk

theorem PTbl.step {a b : List Feat} {i j : Nat} {T : List (Sl Part)} {row : List Part} {v : Part} (h : PTbl a b i j T) (hr : T[i]? = some (some row)) (hj : j < b.length) (ho : PO (elC a b) i j v) : PTbl a b i (j + 1) (T.set i (some (row.set j v))) := by
  have hl := h.rows _ _ hr
  refine ⟨by rw [List.length_set, h.len], rows_set h.rows (by rw [List.length_set, hl]), fun p q hq hpq => ?_⟩
  by_cases e : p = i ∧ q = j
  · obtain ⟨rfl, rfl⟩ := e
    exact ⟨v, (PVal.set hr (by omega)).2 (.inl ⟨rfl, rfl, rfl⟩), ho⟩
  · obtain ⟨w, h1, h2⟩ := h.val p q hq (by omega)
    exact ⟨w, (PVal.set hr (by omega)).2 (.inr ⟨e, h1⟩), h2⟩

theorem sq_nn (a : Int) : 0 ≤ a * a := by
  rcases Int.le_total 0 a with h | h
  · exact Int.mul_nonneg h h
  · have := Int.mul_nonneg (show 0 ≤ -a by omega) (show 0 ≤ -a by omega)
    rwa [Int.neg_mul_neg] at this

theorem pt_v {l : List Point} (h : StV l) {i : Nat} (hi : i < l.length) : PtV (pt l i) := by
  have g := get_pt hi
  exact h.pts _ (List.mem_of_getElem? (getI_iff.1 g).2)

def d2 (a b : Point) : Int := (a.x - b.x) * (a.x - b.x) + (a.y - b.y) * (a.y - b.y)

theorem d2_comm (a b : Point) : d2 b a = d2 a b := by unfold d2; grind

theorem sq_le {x : Int} (h1 : -4095 ≤ x) (h2 : x ≤ 4095) : 0 ≤ x * x ∧ x * x ≤ 16769025 := by
  refine ⟨sq_nn x, ?_⟩
  have e : ((x * x).natAbs : Int) ≤ 16769025 := by
    rw [Int.natAbs_mul]
    have := Nat.mul_le_mul (show x.natAbs ≤ 4095 by omega) (show x.natAbs ≤ 4095 by omega)
    omega
  omega

theorem d2_ok {a b : Point} (ha : PtV a) (hb : PtV b) : 0 ≤ d2 a b ∧ d2 a b ≤ 33538050 ∧ wr (wr (wr (a.x - b.x) * wr (a.x - b.x)) + wr (wr (a.y - b.y) * wr (a.y - b.y))) = d2 a b := by
  obtain ⟨a1, a2, a3, a4, _, _⟩ := ha
  obtain ⟨b1, b2, b3, b4, _, _⟩ := hb
  have h1 := sq_le (x := a.x - b.x) (by omega) (by omega)
  have h2 := sq_le (x := a.y - b.y) (by omega) (by omega)
  unfold d2
  have w1 : wr (a.x - b.x) = a.x - b.x := wr_id (by omega) (by omega)
  have w2 : wr (a.y - b.y) = a.y - b.y := wr_id (by omega) (by omega)
  rw [w1, w2, wr_id (n := (a.x - b.x) * (a.x - b.x)) (by omega) (by omega), wr_id (n := (a.y - b.y) * (a.y - b.y)) (by omega) (by omega), wr_id (by omega) (by omega)]
  exact ⟨by omega, by omega, rfl⟩

theorem squared_ok {a b : Point} (ha : PtV a) (hb : PtV b) : t_impl_squared a b = some (d2 a b) := by
  unfold t_impl_squared
  rw [(d2_ok ha hb).2.2]

theorem l05Far_ok {a b : Point} (ha : PtV a) (hb : PtV b) : t_spec_l05Far a b = some (d2 a b) := by
  unfold t_spec_l05Far
  rw [(d2_ok ha hb).2.2]

def lenP (a b : Point) : Int := ((isq (256 * d2 a b).toNat : Nat) : Int)

theorem lenP_comm (a b : Point) : lenP b a = lenP a b := by unfold lenP; rw [d2_comm]

theorem rootO_ok {n : Int} (h0 : 0 ≤ n) (h1 : n ≤ 1000000000000000) : rootO n = some ((isq n.toNat : Nat) : Int) := by
  unfold rootO
  simp [h0, h1]

theorem isq_int {n : Int} (h0 : 0 ≤ n) : 0 ≤ ((isq n.toNat : Nat) : Int) ∧ ((isq n.toNat : Nat) : Int) * ((isq n.toNat : Nat) : Int) ≤ n ∧ n < (((isq n.toNat : Nat) : Int) + 1) * (((isq n.toNat : Nat) : Int) + 1) := by
  obtain ⟨m, rfl⟩ := Int.eq_ofNat_of_zero_le h0
  obtain ⟨h1, h2⟩ := isq_spec m
  rw [Int.toNat_natCast]
  refine ⟨by omega, by exact_mod_cast h1, by exact_mod_cast h2⟩

theorem le_of_sq {x y : Int} (hy : 0 ≤ y) (h : x * x ≤ y * y) : x ≤ y := by
  rcases Int.lt_or_le y x with c | c
  · have h1 : y * y ≤ y * x := Int.mul_le_mul_of_nonneg_left (by omega) hy
    have h2 : y * x < x * x := Int.mul_lt_mul_of_pos_right c (by omega)
    omega
  · exact c

theorem lenP_le {a b : Point} (ha : PtV a) (hb : PtV b) : 0 ≤ lenP a b ∧ lenP a b ≤ 100000 := by
  obtain ⟨h1, h2, _⟩ := d2_ok ha hb
  obtain ⟨h3, h4, _⟩ := isq_int (n := 256 * d2 a b) (by omega)
  refine ⟨h3, le_of_sq (by omega) ?_⟩
  show _ * _ ≤ _
  unfold lenP
  omega

theorem lengthOf_ok {a b : Point} (ha : PtV a) (hb : PtV b) : t_impl_lengthOf a b = some (lenP a b) ∧ t_spec_l05Length a b = some (lenP a b) := by
  obtain ⟨h1, h2, _⟩ := d2_ok ha hb
  have w : wr (256 * d2 a b) = 256 * d2 a b := wr_id (by omega) (by omega)
  have r := rootO_ok (n := 256 * d2 a b) (by omega) (by omega)
  unfold t_impl_lengthOf t_spec_l05Length t_impl_rootOf t_spec_l05Root
  simp only [squared_ok ha hb, l05Far_ok ha hb, obind_sm, w, r]
  exact ⟨rfl, rfl⟩

/-- The length of a stroke's first `k` segments. -/
def lenF (l : List Point) (i : Nat) : Int := lenP (pt l i) (pt l (i + 1))

def slen (l : List Point) : Int := sumN (lenF l) (l.length - 1)

theorem lenF_le {l : List Point} (h : StV l) {i : Nat} (hi : i + 1 < l.length) : 0 ≤ lenF l i ∧ lenF l i ≤ 100000 := lenP_le (pt_v h (by omega)) (pt_v h hi)

theorem lenS_le {l : List Point} (h : StV l) : ∀ {k : Nat}, k + 1 ≤ l.length → 0 ≤ sumN (lenF l) k ∧ sumN (lenF l) k ≤ 100000 * (k : Int)
  | 0, _ => by simp [sumN]
  | k + 1, hk => by
    have h1 := lenS_le h (k := k) (by omega)
    have h2 := lenF_le h (i := k) (by omega)
    show 0 ≤ sumN (lenF l) k + lenF l k ∧ sumN (lenF l) k + lenF l k ≤ _
    omega

theorem arcs_ok {s : Stroke} (h : StV (s.points.getD [])) : ∃ A : List Int, t_impl_arcsOf s = some (some A) ∧ A.length = (s.points.getD []).length ∧ ∀ j, j < (s.points.getD []).length → A[j]? = some (sumN (lenF (s.points.getD [])) j) := by
  have n1 := h.n1
  have n2 := h.n2
  obtain ⟨l, hL⟩ : ∃ l, s.points.getD [] = l := ⟨_, rfl⟩
  rw [hL] at h n1 n2 ⊢
  obtain ⟨q, e, A, rfl, e1, e2⟩ := loopT_ex (step := s0_impl_arcsOf s) (fun k t => ∃ A, t = (some A, ((k + 1 : Nat) : Int)) ∧ A.length = k + 1 ∧ ∀ j, j < k + 1 → A[j]? = some (sumN (lenF l) j)) (l.length - 1) (fun q => ∃ A, q = some A ∧ A.length = l.length ∧ ∀ j, j < l.length → A[j]? = some (sumN (lenF l) j))
    (fun k t hk ht => by
      obtain ⟨A, rfl, a1, a2⟩ := ht
      have c : ((k + 1 : Nat) : Int) < ((l.length : Nat) : Int) := by omega
      have w1 : wr (((k + 1 : Nat) : Int) - 1) = ((k : Nat) : Int) := by rw [wr_id (by omega) (by omega)]; omega
      have w2 : wr (((k + 1 : Nat) : Int) + 1) = ((k + 1 + 1 : Nat) : Int) := by rw [wr_id (by omega) (by omega)]; omega
      have g := getI_nat (a2 k (by omega))
      have le := (lengthOf_ok (pt_v h (i := k) (by omega)) (pt_v h (i := k + 1) (by omega))).1
      have b1 := lenS_le h (k := k) (by omega)
      have b2 := lenF_le h (i := k) (by omega)
      have w3 : wr (sumN (lenF l) k + lenF l k) = sumN (lenF l) (k + 1) := wr_id (by omega) (by omega)
      have w3' : wr (sumN (lenF l) k + lenP (pt l k) (pt l (k + 1))) = sumN (lenF l) (k + 1) := w3
      refine .inl ⟨(some (A ++ [sumN (lenF l) (k + 1)]), ((k + 1 + 1 : Nat) : Int)), ?_, _, rfl, by simp [a1], fun j hj => ?_⟩
      · unfold s0_impl_arcsOf
        simp only [hL, c, decide_true, cond_true, w1, Option.getD_some, g, get_pt (l := l) (i := k) (by omega), get_pt (l := l) (i := k + 1) (by omega), le, obind_sm, w3', appO_one (some A) _ (by simp only [Option.getD_some]; omega), appS_cons, w2]
      · by_cases c2 : j < k + 1
        · rw [List.getElem?_append_left (by omega)]
          exact a2 j c2
        · have : j = k + 1 := by omega
          subst this
          rw [List.getElem?_append_right (by omega), a1, Nat.sub_self]
          rfl)
    (fun t ht => by
      obtain ⟨A, rfl, a1, a2⟩ := ht
      have c : ¬ ((l.length - 1 + 1 : Nat) : Int) < ((l.length : Nat) : Int) := by omega
      refine ⟨some A, ?_, A, rfl, by omega, fun j hj => a2 j (by omega)⟩
      unfold s0_impl_arcsOf
      simp only [hL, c, decide_false, cond_false])
    (s := (some [0], 1)) ⟨[0], rfl, rfl, fun j hj => by
      have : j = 0 := by omega
      subst this
      rfl⟩
  refine ⟨A, ?_, e1, e2⟩
  unfold t_impl_arcsOf
  rw [e, obind_sm]

theorem strokeLen_ok {s : Stroke} (h : StV (s.points.getD [])) : t_impl_strokeLength s = some (slen (s.points.getD [])) := by
  have n1 := h.n1
  have n2 := h.n2
  obtain ⟨A, e, e1, e2⟩ := arcs_ok h
  have w : wr ((((s.points.getD []).length : Nat) : Int) - 1) = (((s.points.getD []).length - 1 : Nat) : Int) := by rw [wr_id (by omega) (by omega)]; omega
  have g := getI_nat (e2 ((s.points.getD []).length - 1) (by omega))
  unfold t_impl_strokeLength
  simp only [e, obind_sm, Option.getD_some, e1, w, g]
  rfl

theorem l05Sum_ok {s : Stroke} (h : StV (s.points.getD [])) : t_spec_l05Sum s = some (slen (s.points.getD [])) := by
  have n1 := h.n1
  have n2 := h.n2
  obtain ⟨l, hL⟩ : ∃ l, s.points.getD [] = l := ⟨_, rfl⟩
  rw [hL] at h n1 n2 ⊢
  have lp := loopT_at (step := s0_spec_l05Sum s) (l.length - 1) (fun k => (sumN (lenF l) k, ((k + 1 : Nat) : Int))) (slen l)
    (fun k hk => by
      have c : ((k + 1 : Nat) : Int) < ((l.length : Nat) : Int) := by omega
      have w1 : wr (((k + 1 : Nat) : Int) - 1) = ((k : Nat) : Int) := by rw [wr_id (by omega) (by omega)]; omega
      have w2 : wr (((k + 1 : Nat) : Int) + 1) = ((k + 1 + 1 : Nat) : Int) := by rw [wr_id (by omega) (by omega)]; omega
      have le := (lengthOf_ok (pt_v h (i := k) (by omega)) (pt_v h (i := k + 1) (by omega))).2
      have b1 := lenS_le h (k := k) (by omega)
      have b2 := lenF_le h (i := k) (by omega)
      have w3 : wr (sumN (lenF l) k + lenF l k) = sumN (lenF l) (k + 1) := wr_id (by omega) (by omega)
      have w3' : wr (sumN (lenF l) k + lenP (pt l k) (pt l (k + 1))) = sumN (lenF l) (k + 1) := w3
      unfold s0_spec_l05Sum
      simp only [hL, c, decide_true, cond_true, w1, get_pt (l := l) (i := k) (by omega), get_pt (l := l) (i := k + 1) (by omega), le, obind_sm, w3', w2])
    (by
      have c : ¬ ((l.length - 1 + 1 : Nat) : Int) < ((l.length : Nat) : Int) := by omega
      unfold s0_spec_l05Sum
      simp only [hL, c, decide_false, cond_false]
      rfl)
    0 (Nat.zero_le _)
  have lp' : loopT (s0_spec_l05Sum s) (0, 1) = some (slen l) := lp
  unfold t_spec_l05Sum
  rw [lp', obind_sm]

def strokeL (l : List Point) : Int × Int := bif vS l then (slen l, 0) else (0, 1)

theorem strokeL_ok (s : Stroke) (hs : StB s) : t_impl_StrokeLength s = some (strokeL (s.points.getD [])) ∧ t_spec_StrokeLength s = some (strokeL (s.points.getD [])) := by
  unfold t_impl_StrokeLength t_spec_StrokeLength strokeL
  rw [validStroke_vS s hs.le, l02Stroke_vS s hs.le]
  cases h : vS (s.points.getD []) with
  | false => exact ⟨rfl, rfl⟩
  | true =>
    simp only [obind_sm, Bool.not_true, cond_false, cond_true, strokeLen_ok (vS_iff.1 h), l05Sum_ok (vS_iff.1 h)]
    constructor <;> first | rfl | trivial

theorem firstOf_ok {s : Stroke} (h : StV (s.points.getD [])) : t_impl_firstOf s = some (pt (s.points.getD []) 0) ∧ getI (s.points.getD []) 0 = some (pt (s.points.getD []) 0) := by
  have g : getI (s.points.getD []) 0 = some (pt (s.points.getD []) 0) := get_pt (l := s.points.getD []) (i := 0) h.n1
  unfold t_impl_firstOf
  rw [g, obind_sm]
  exact ⟨rfl, rfl⟩

theorem lastOf_ok {s : Stroke} (h : StV (s.points.getD [])) : t_impl_lastOf s = some (pt (s.points.getD []) ((s.points.getD []).length - 1)) ∧ getI (s.points.getD []) (wr ((((s.points.getD []).length : Nat) : Int) - 1)) = some (pt (s.points.getD []) ((s.points.getD []).length - 1)) := by
  have n1 := h.n1
  have n2 := h.n2
  have w : wr ((((s.points.getD []).length : Nat) : Int) - 1) = (((s.points.getD []).length - 1 : Nat) : Int) := by rw [wr_id (by omega) (by omega)]; omega
  have g := get_pt (l := s.points.getD []) (i := (s.points.getD []).length - 1) (by omega)
  unfold t_impl_lastOf
  rw [w, g, obind_sm]
  exact ⟨rfl, rfl⟩

theorem sameStroke_ok {a b : Stroke} (h : a.points.getD [] = b.points.getD []) (hl : (a.points.getD []).length ≤ 4294967296) : t_spec_l02SameStroke a b = some true := by
  have lp := loopT_first (step := s0_spec_l02SameStroke a b) (a.points.getD []) (fun _ _ => (none : Option Bool)) (.inl ()) .inr
    (fun k x hx => by
      have hk := get_lt hx
      have c : (k : Int) < ((a.points.getD []).length : Nat) := by omega
      unfold s0_spec_l02SameStroke
      simp only [c, decide_true, cond_true, getI_nat hx, ← h, obind_sm, Bool.not_true, cond_false, wr_succ hk hl])
    (by
      unfold s0_spec_l02SameStroke
      simp only [Int.lt_irrefl, decide_false, cond_false])
  rw [firstL_none (fun _ _ _ => rfl)] at lp
  unfold t_spec_l02SameStroke
  rw [lp, ← h]
  simp

theorem f6stroke_ok {a b : Stroke} (h : a.points.getD [] = b.points.getD []) (hl : (a.points.getD []).length ≤ 4294967296) : t_laws_f6stroke a b = some true := by
  have lp := loopT_first (step := s0_spec_l02Same ⟨some [a]⟩ ⟨some [b]⟩) [a] (fun _ _ => (none : Option Bool)) (.inl ()) .inr
    (fun k x hx => by
      have hk := get_lt hx
      simp only [List.length_cons, List.length_nil] at hk
      have k0 : k = 0 := by omega
      subst k0
      simp only [List.getElem?_cons_zero, Option.some.injEq] at hx
      subst hx
      have g1 : getI [a] ((0 : Nat) : Int) = some a := getI_nat rfl
      have g2 : getI [b] ((0 : Nat) : Int) = some b := getI_nat rfl
      have c : ((0 : Nat) : Int) < (([a].length : Nat) : Int) := by simp
      have w : wr (((0 : Nat) : Int) + 1) = ((0 + 1 : Nat) : Int) := by decide
      unfold s0_spec_l02Same
      simp only [Option.getD_some, c, decide_true, cond_true, g1, g2, obind_sm, sameStroke_ok h hl, Bool.not_true, cond_false, w])
    (by
      unfold s0_spec_l02Same
      simp only [Option.getD_some, Int.lt_irrefl, decide_false, cond_false])
  rw [firstL_none (fun _ _ _ => rfl)] at lp
  unfold t_laws_f6stroke t_spec_SameInk t_spec_l02Same
  rw [lp]
  simp

/-- A stroke that is written backwards. -/
def rvP (c : Int) (l : List Point) : List Point := l.reverse.map fun p => ⟨p.x, p.y, c - p.t⟩

theorem rvP_len (c : Int) (l : List Point) : (rvP c l).length = l.length := by simp [rvP]

theorem rvP_get {c : Int} {l : List Point} {k : Nat} (hk : k < l.length) : (rvP c l)[k]? = (l[l.length - 1 - k]?).map fun p => ⟨p.x, p.y, c - p.t⟩ := by
  unfold rvP
  rw [List.getElem?_map, List.getElem?_reverse hk]

theorem pt_some {l : List Point} {k : Nat} (hk : k < l.length) : l[k]? = some (pt l k) := (getI_iff.1 (get_pt hk)).2

theorem rvP_pt {c : Int} {l : List Point} {k : Nat} (hk : k < l.length) : pt (rvP c l) k = ⟨(pt l (l.length - 1 - k)).x, (pt l (l.length - 1 - k)).y, c - (pt l (l.length - 1 - k)).t⟩ := by
  have h := rvP_get (c := c) hk
  rw [pt_some (l := l) (k := l.length - 1 - k) (by omega), pt_some (by rw [rvP_len]; exact hk)] at h
  simpa using h

theorem rvP_rvP (c : Int) (l : List Point) : rvP c (rvP c l) = l := by
  unfold rvP
  rw [← List.map_reverse, List.reverse_reverse, List.map_map]
  have e : ((fun p : Point => (⟨p.x, p.y, c - p.t⟩ : Point)) ∘ fun p : Point => (⟨p.x, p.y, c - p.t⟩ : Point)) = id := by
    funext p
    obtain ⟨x, y, t⟩ := p
    show (⟨x, y, c - (c - t)⟩ : Point) = ⟨x, y, t⟩
    rw [show c - (c - t) = t by omega]
  rw [e, List.map_id]

theorem t_mono {l : List Point} (h : StV l) : ∀ {d i : Nat}, i + d < l.length → (pt l i).t ≤ (pt l (i + d)).t
  | 0, i, _ => Int.le_refl _
  | d + 1, i, hd => by
    have h1 := t_mono h (d := d) (i := i) (by omega)
    have h2 := h.inc (i + d) (pt l (i + d)) (pt l (i + d + 1)) (pt_some (by omega)) (pt_some (by omega))
    have e : i + (d + 1) = i + d + 1 := by omega
    rw [e]
    omega

def sumT (l : List Point) : Int := (pt l 0).t + (pt l (l.length - 1)).t

theorem t_in {l : List Point} (h : StV l) {i : Nat} (hi : i < l.length) : (pt l 0).t ≤ (pt l i).t ∧ (pt l i).t ≤ (pt l (l.length - 1)).t := by
  have h1 := t_mono h (d := i) (i := 0) (by omega)
  have h2 := t_mono h (d := l.length - 1 - i) (i := i) (by omega)
  have e : i + (l.length - 1 - i) = l.length - 1 := by omega
  rw [Nat.zero_add] at h1
  rw [e] at h2
  exact ⟨h1, h2⟩

theorem rvP_v {l : List Point} (h : StV l) : StV (rvP (sumT l) l) := by
  have n1 := h.n1
  have n2 := h.n2
  refine ⟨fun p hp => ?_, fun k p q h1 h2 => ?_, by rw [rvP_len]; exact n1, by rw [rvP_len]; exact n2⟩
  · obtain ⟨k, hk⟩ := List.mem_iff_getElem?.1 hp
    have hlt := get_lt hk
    rw [rvP_len] at hlt
    have e := pt_some (l := rvP (sumT l) l) (k := k) (by rw [rvP_len]; exact hlt)
    rw [hk] at e
    cases e
    rw [rvP_pt hlt]
    have pv := pt_v h (i := l.length - 1 - k) (by omega)
    have p0 := pt_v h (i := 0) (by omega)
    have pn := pt_v h (i := l.length - 1) (by omega)
    have ti := t_in h (i := l.length - 1 - k) (by omega)
    have a1 := pn.t1
    have a2 := p0.t0
    exact ⟨pv.x0, pv.x1, pv.y0, pv.y1, by unfold sumT; simp only; omega, by unfold sumT; simp only; omega⟩
  · have hk := get_lt h2
    rw [rvP_len] at hk
    have e1 := pt_some (l := rvP (sumT l) l) (k := k) (by rw [rvP_len]; omega)
    have e2 := pt_some (l := rvP (sumT l) l) (k := k + 1) (by rw [rvP_len]; omega)
    rw [h1] at e1
    rw [h2] at e2
    cases e1
    cases e2
    rw [rvP_pt (by omega), rvP_pt (by omega)]
    have e : l.length - 1 - k = l.length - 1 - (k + 1) + 1 := by omega
    have i := h.inc (l.length - 1 - (k + 1)) _ _ (pt_some (by omega)) (pt_some (by omega))
    rw [← e] at i
    simp only
    omega

theorem rvP_sumT {l : List Point} (h : StV l) : sumT (rvP (sumT l) l) = sumT l := by
  have n1 := h.n1
  unfold sumT
  rw [rvP_pt (by omega), rvP_len, rvP_pt (by omega)]
  have e : l.length - 1 - (l.length - 1) = 0 := by omega
  simp only [Nat.sub_zero, e]
  omega

theorem reverseLoop {s : Stroke} (h : StV (s.points.getD [])) (step : ((Sl Point) × Int) → Option (Sum ((Sl Point) × Int) (Sl Point)))
    (next : ∀ (w : Sl Point) (k : Nat), k < (s.points.getD []).length → step (w, (k : Int)) = obind (appO w [(⟨(pt (s.points.getD []) k).x, (pt (s.points.getD []) k).y, sumT (s.points.getD []) - (pt (s.points.getD []) k).t⟩ : Point)]) fun _ => some (.inl (appS w [(⟨(pt (s.points.getD []) k).x, (pt (s.points.getD []) k).y, sumT (s.points.getD []) - (pt (s.points.getD []) k).t⟩ : Point)], wr ((k : Int) - 1))))
    (fin : ∀ (w : Sl Point), step (w, -1) = some (.inr w)) :
    ∃ q, loopT step (none, wr ((((s.points.getD []).length : Nat) : Int) - 1)) = some q ∧ q.getD [] = rvP (sumT (s.points.getD [])) (s.points.getD []) := by
  have n1 := h.n1
  have n2 := h.n2
  obtain ⟨l, hL⟩ : ∃ l, s.points.getD [] = l := ⟨_, rfl⟩
  rw [hL] at h n1 n2 next ⊢
  have w0 : wr (((l.length : Nat) : Int) - 1) = ((l.length : Nat) : Int) - 1 - ((0 : Nat) : Int) := by rw [wr_id (by omega) (by omega)]; omega
  rw [w0]
  exact loopT_ex (step := step) (fun k t => t.1.getD [] = (rvP (sumT l) l).take k ∧ t.2 = ((l.length : Nat) : Int) - 1 - (k : Int)) l.length (fun q => q.getD [] = rvP (sumT l) l)
    (fun k ⟨w, i⟩ hk ⟨g1, g2⟩ => by
      simp only at g1 g2
      have ei : i = ((l.length - 1 - k : Nat) : Int) := by omega
      subst ei
      have e := next w (l.length - 1 - k) (by omega)
      have ws : wr (((l.length - 1 - k : Nat) : Int) - 1) = ((l.length : Nat) : Int) - 1 - ((k + 1 : Nat) : Int) := by rw [wr_id (by omega) (by omega)]; omega
      rw [ws, appO_one w _ (by rw [g1, List.length_take]; omega), obind_sm, appS_cons] at e
      refine .inl ⟨_, e, ?_, rfl⟩
      show w.getD [] ++ _ = _
      rw [g1, List.take_add_one, pt_some (l := rvP (sumT l) l) (k := k) (by rw [rvP_len]; exact hk), rvP_pt hk]
      rfl)
    (fun ⟨w, i⟩ ⟨g1, g2⟩ => by
      simp only at g1 g2
      have ei : i = -1 := by omega
      subst ei
      refine ⟨w, fin w, ?_⟩
      rw [g1, List.take_of_length_le (by rw [rvP_len]; exact Nat.le_refl _)])
    (s := (none, _)) ⟨rfl, rfl⟩

theorem implRev_ok (s : Stroke) (hs : StB s) : ∃ r n, t_impl_ReverseStroke s = some (r, n) ∧ (vS (s.points.getD []) = false → n = 1 ∧ r = ⟨none⟩) ∧ (vS (s.points.getD []) = true → n = 0 ∧ r.points.getD [] = rvP (sumT (s.points.getD [])) (s.points.getD [])) := by
  unfold t_impl_ReverseStroke
  rw [validStroke_vS s hs.le]
  cases hv : vS (s.points.getD []) with
  | false => exact ⟨_, _, rfl, fun _ => ⟨rfl, rfl⟩, fun h => by cases h⟩
  | true =>
    have h := vS_iff.1 hv
    have n2 := h.n2
    have p0 := pt_v h (i := 0) h.n1
    have pn := pt_v h (i := (s.points.getD []).length - 1) (by have := h.n1; omega)
    obtain ⟨q, e, hq⟩ := reverseLoop h (s0_impl_ReverseStroke s (pt (s.points.getD []) 0) (pt (s.points.getD []) ((s.points.getD []).length - 1))) (fun w k hk => by
      have pk := pt_v h hk
      have a := p0.t0
      have b := p0.t1
      have c := pn.t0
      have d := pn.t1
      have e := pk.t0
      have f := pk.t1
      have w1 : wr ((pt (s.points.getD []) 0).t + (pt (s.points.getD []) ((s.points.getD []).length - 1)).t) = sumT (s.points.getD []) := wr_id (by omega) (by omega)
      have w2 : wr (sumT (s.points.getD []) - (pt (s.points.getD []) k).t) = sumT (s.points.getD []) - (pt (s.points.getD []) k).t := wr_id (by unfold sumT; omega) (by unfold sumT; omega)
      have cc : (0 : Int) ≤ (k : Int) := by omega
      unfold s0_impl_ReverseStroke
      simp only [cc, decide_true, cond_true, get_pt hk, obind_sm, w1, w2]) (fun w => by
      have cc : ¬ (0 : Int) ≤ -1 := by omega
      unfold s0_impl_ReverseStroke
      simp only [cc, decide_false, cond_false])
    refine ⟨⟨q⟩, 0, ?_, fun h => (by cases h), fun _ => ⟨rfl, hq⟩⟩
    simp only [obind_sm, Bool.not_true, cond_false, (firstOf_ok h).1, (lastOf_ok h).1, e]

theorem specRev_ok (s : Stroke) (hs : StB s) : ∃ r n, t_spec_ReverseStroke s = some (r, n) ∧ (vS (s.points.getD []) = false → n = 1 ∧ r = ⟨none⟩) ∧ (vS (s.points.getD []) = true → n = 0 ∧ r.points.getD [] = rvP (sumT (s.points.getD [])) (s.points.getD [])) := by
  unfold t_spec_ReverseStroke
  rw [l02Stroke_vS s hs.le]
  cases hv : vS (s.points.getD []) with
  | false => exact ⟨_, _, rfl, fun _ => ⟨rfl, rfl⟩, fun h => by cases h⟩
  | true =>
    have h := vS_iff.1 hv
    have n2 := h.n2
    have p0 := pt_v h (i := 0) h.n1
    have pn := pt_v h (i := (s.points.getD []).length - 1) (by have := h.n1; omega)
    obtain ⟨q, e, hq⟩ := reverseLoop h (s0_spec_ReverseStroke s) (fun w k hk => by
      have pk := pt_v h hk
      have a := p0.t0
      have b := p0.t1
      have c := pn.t0
      have d := pn.t1
      have e := pk.t0
      have f := pk.t1
      have w1 : wr ((pt (s.points.getD []) 0).t + (pt (s.points.getD []) ((s.points.getD []).length - 1)).t) = sumT (s.points.getD []) := wr_id (by omega) (by omega)
      have w2 : wr (sumT (s.points.getD []) - (pt (s.points.getD []) k).t) = sumT (s.points.getD []) - (pt (s.points.getD []) k).t := wr_id (by unfold sumT; omega) (by unfold sumT; omega)
      have cc : (0 : Int) ≤ (k : Int) := by omega
      unfold s0_spec_ReverseStroke
      simp only [cc, decide_true, cond_true, get_pt hk, obind_sm, (firstOf_ok h).2, (lastOf_ok h).2, w1, w2]) (fun w => by
      have cc : ¬ (0 : Int) ≤ -1 := by omega
      unfold s0_spec_ReverseStroke
      simp only [cc, decide_false, cond_false])
    refine ⟨⟨q⟩, 0, ?_, fun h => (by cases h), fun _ => ⟨rfl, hq⟩⟩
    simp only [obind_sm, Bool.not_true, cond_false, e]

def crossP (a b : Point) : Int := a.x * b.y - a.y * b.x

theorem crossP_comm (a b : Point) : crossP b a = -crossP a b := by unfold crossP; grind

theorem crossP_ok {a b : Point} (ha : PtV a) (hb : PtV b) : wr (wr (a.x * b.y) - wr (a.y * b.x)) = crossP a b ∧ -16769025 ≤ crossP a b ∧ crossP a b ≤ 16769025 := by
  obtain ⟨a1, a2, a3, a4, _, _⟩ := ha
  obtain ⟨b1, b2, b3, b4, _, _⟩ := hb
  have m1 := Int.mul_nonneg a1 b3
  have m2 := Int.mul_le_mul a2 b4 b3 (by omega)
  have m3 := Int.mul_nonneg a3 b1
  have m4 := Int.mul_le_mul a4 b2 b1 (by omega)
  unfold crossP
  rw [wr_id (n := a.x * b.y) (by omega) (by omega), wr_id (n := a.y * b.x) (by omega) (by omega)]
  exact ⟨wr_id (by omega) (by omega), by omega, by omega⟩

def crF (l : List Point) (i : Nat) : Int := crossP (pt l i) (pt l ((i + 1) % l.length))

def area (l : List Point) : Int := sumN (crF l) l.length

theorem crF_le {l : List Point} (h : StV l) {i : Nat} (hi : i < l.length) : -16769025 ≤ crF l i ∧ crF l i ≤ 16769025 := (crossP_ok (pt_v h hi) (pt_v h (Nat.mod_lt _ h.n1))).2

theorem crS_le {l : List Point} (h : StV l) : ∀ {k : Nat}, k ≤ l.length → -16769025 * (k : Int) ≤ sumN (crF l) k ∧ sumN (crF l) k ≤ 16769025 * (k : Int)
  | 0, _ => by simp [sumN]
  | k + 1, hk => by
    have h1 := crS_le h (k := k) (by omega)
    have h2 := crF_le h (i := k) (by omega)
    show _ ≤ sumN (crF l) k + crF l k ∧ sumN (crF l) k + crF l k ≤ _
    omega

theorem areaLoop {s : Stroke} (h : StV (s.points.getD [])) (step : (Int × Int) → Option (Sum (Int × Int) Int))
    (next : ∀ (w : Int) (k : Nat), k < (s.points.getD []).length → step (w, (k : Int)) = obind (remI (wr ((k : Int) + 1)) (((s.points.getD []).length : Nat) : Int)) fun q => obind (getI (s.points.getD []) q) fun b => some (.inl (wr (w + wr (wr ((pt (s.points.getD []) k).x * b.y) - wr ((pt (s.points.getD []) k).y * b.x))), wr ((k : Int) + 1))))
    (fin : ∀ (w : Int), step (w, (((s.points.getD []).length : Nat) : Int)) = some (.inr w)) : loopT step (0, 0) = some (area (s.points.getD [])) := by
  have n1 := h.n1
  have n2 := h.n2
  obtain ⟨l, hL⟩ : ∃ l, s.points.getD [] = l := ⟨_, rfl⟩
  rw [hL] at h n1 n2 next fin ⊢
  have r := loopT_at (step := step) l.length (fun k => (sumN (crF l) k, ((k : Nat) : Int))) (area l)
    (fun k hk => by
      have e := next (sumN (crF l) k) k hk
      have ws := wr_succ hk (by omega)
      have rm : remI ((k + 1 : Nat) : Int) ((l.length : Nat) : Int) = some (((k + 1) % l.length : Nat) : Int) := by
        unfold remI
        have : ¬ ((l.length : Nat) : Int) = 0 := by omega
        simp only [this, decide_false, cond_false]
        congr 1
      have b1 := crS_le h (k := k) (by omega)
      have b2 := crF_le h (i := k) hk
      have cr := (crossP_ok (pt_v h hk) (pt_v h (Nat.mod_lt (k + 1) n1))).1
      have w3 : wr (sumN (crF l) k + crossP (pt l k) (pt l ((k + 1) % l.length))) = sumN (crF l) (k + 1) := wr_id (by show _ ≤ sumN (crF l) k + crF l k; omega) (by show sumN (crF l) k + crF l k ≤ _; omega)
      rw [ws, rm, obind_sm, get_pt (Nat.mod_lt _ n1), obind_sm, cr, w3] at e
      exact e)
    (fin _)
    0 (Nat.zero_le _)
  exact r

def areaR (l : List Point) : Int × Int := bif vS l then (area l, 0) else (0, 1)

theorem area_ok (s : Stroke) (hs : StB s) : t_impl_StrokeArea s = some (areaR (s.points.getD [])) ∧ t_spec_StrokeArea s = some (areaR (s.points.getD [])) := by
  unfold t_impl_StrokeArea t_spec_StrokeArea t_spec_l05Area areaR
  rw [validStroke_vS s hs.le, l02Stroke_vS s hs.le]
  cases hv : vS (s.points.getD []) with
  | false => exact ⟨rfl, rfl⟩
  | true =>
    have h := vS_iff.1 hv
    have l1 := areaLoop h (s0_impl_StrokeArea s) (fun w k hk => by
      have c : (k : Int) < (((s.points.getD []).length : Nat) : Int) := by omega
      unfold s0_impl_StrokeArea
      simp only [c, decide_true, cond_true, get_pt hk, obind_sm]) (fun w => by
      unfold s0_impl_StrokeArea
      simp only [Int.lt_irrefl, decide_false, cond_false])
    have l2 := areaLoop h (s0_spec_l05Area s.points) (fun w k hk => by
      have c : (k : Int) < (((s.points.getD []).length : Nat) : Int) := by omega
      unfold s0_spec_l05Area
      simp only [c, decide_true, cond_true, get_pt hk, obind_sm]) (fun w => by
      unfold s0_spec_l05Area
      simp only [Int.lt_irrefl, decide_false, cond_false])
    simp only [obind_sm, Bool.not_true, cond_false, cond_true, l1, l2]
    constructor <;> first | rfl | trivial

theorem sumN_ext {f g : Nat → Int} : ∀ {n : Nat}, (∀ i, i < n → f i = g i) → sumN f n = sumN g n
  | 0, _ => rfl
  | n + 1, h => by
    show sumN f n + f n = sumN g n + g n
    rw [sumN_ext (n := n) fun i hi => h i (by omega), h n (by omega)]

theorem sumN_front (f : Nat → Int) : ∀ n, sumN f (n + 1) = f 0 + sumN (fun i => f (i + 1)) n
  | 0 => by simp [sumN]
  | n + 1 => by
    have h := sumN_front f n
    show sumN f (n + 1) + f (n + 1) = f 0 + (sumN (fun i => f (i + 1)) n + f (n + 1))
    omega

theorem sumN_rev (f : Nat → Int) : ∀ n, sumN (fun i => f (n - 1 - i)) n = sumN f n
  | 0 => rfl
  | n + 1 => by
    rw [sumN_front]
    have e : sumN (fun i => f (n + 1 - 1 - (i + 1))) n = sumN (fun i => f (n - 1 - i)) n := sumN_ext fun i hi => by congr 1; omega
    show f (n + 1 - 1 - 0) + sumN (fun i => f (n + 1 - 1 - (i + 1))) n = sumN f n + f n
    rw [e, sumN_rev f n]
    have : n + 1 - 1 - 0 = n := by omega
    rw [this]
    omega

theorem sumN_neg (f : Nat → Int) : ∀ n, sumN (fun i => -f i) n = -sumN f n
  | 0 => rfl
  | n + 1 => by
    have h := sumN_neg f n
    show sumN (fun i => -f i) n + -f n = -(sumN f n + f n)
    omega

theorem crossP_xy {a a' b b' : Point} (h1 : a.x = a'.x) (h2 : a.y = a'.y) (h3 : b.x = b'.x) (h4 : b.y = b'.y) : crossP a b = crossP a' b' := by unfold crossP; rw [h1, h2, h3, h4]

theorem area_rev {c : Int} {l : List Point} (n1 : 1 ≤ l.length) : area (rvP c l) = -area l := by
  obtain ⟨m, hm⟩ : ∃ m, l.length = m + 1 := ⟨l.length - 1, by omega⟩
  unfold area
  rw [rvP_len, hm]
  show sumN (crF (rvP c l)) m + crF (rvP c l) m = -(sumN (crF l) m + crF l m)
  have last : crF (rvP c l) m = -crF l m := by
    unfold crF
    rw [rvP_len, hm, Nat.mod_self, ← crossP_comm]
    exact crossP_xy (by rw [rvP_pt (by omega), hm]; simp) (by rw [rvP_pt (by omega), hm]; simp) (by rw [rvP_pt (by omega), hm]; simp) (by rw [rvP_pt (by omega), hm]; simp)
  have main : sumN (crF (rvP c l)) m = -sumN (crF l) m := by
    rw [← sumN_neg, ← sumN_rev (fun i => -crF l i) m]
    apply sumN_ext
    intro i hi
    unfold crF
    rw [rvP_len, hm, Nat.mod_eq_of_lt (show i + 1 < m + 1 by omega), Nat.mod_eq_of_lt (show m - 1 - i + 1 < m + 1 by omega), ← crossP_comm]
    have e1 : l.length - 1 - i = m - 1 - i + 1 := by omega
    have e2 : l.length - 1 - (i + 1) = m - 1 - i := by omega
    exact crossP_xy (by rw [rvP_pt (by omega), e1]) (by rw [rvP_pt (by omega), e1]) (by rw [rvP_pt (by omega), e2]) (by rw [rvP_pt (by omega), e2])
  omega

theorem lenP_xy {a a' b b' : Point} (h1 : a.x = a'.x) (h2 : a.y = a'.y) (h3 : b.x = b'.x) (h4 : b.y = b'.y) : lenP a b = lenP a' b' := by unfold lenP d2; rw [h1, h2, h3, h4]

theorem slen_rev {c : Int} {l : List Point} : slen (rvP c l) = slen l := by
  unfold slen
  rw [rvP_len, ← sumN_rev (lenF l)]
  apply sumN_ext
  intro i hi
  unfold lenF
  rw [lenP_comm]
  have e1 : l.length - 1 - i = l.length - 1 - 1 - i + 1 := by omega
  have e2 : l.length - 1 - (i + 1) = l.length - 1 - 1 - i := by omega
  exact lenP_xy (by rw [rvP_pt (by omega), e2]) (by rw [rvP_pt (by omega), e2]) (by rw [rvP_pt (by omega), e1]) (by rw [rvP_pt (by omega), e1])

/-- The first of the nearest points among the first ones. -/
def nearN (l : List Point) (p : Point) : Nat → Nat
  | 0 => 0
  | k + 1 => bif decide (d2 p (pt l (k + 1)) < d2 p (pt l (nearN l p k))) then k + 1 else nearN l p k

theorem nearN_le (l : List Point) (p : Point) : ∀ k, nearN l p k ≤ k
  | 0 => Nat.le_refl _
  | k + 1 => by
    have h := nearN_le l p k
    unfold nearN
    cases decide (d2 p (pt l (k + 1)) < d2 p (pt l (nearN l p k))) with
    | true => exact Nat.le_refl _
    | false => show nearN l p k ≤ _; omega

end Go.Proofs.Ytdikndbpcceogaa
