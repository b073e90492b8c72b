/-
  The law FnDirections holds, for all arguments: it returns true, and its arguments read behind the call as before. No condition.
-/
import Derived.Test.YtdklppipegepdaaFnDirectionsPartA
import Derived.Test.YtdklppipegepdaaRows
namespace Go.Proofs.Ytdklppipegepdaa
open Go Go.Eng Go.Eng.Cod
set_option maxRecDepth 100000
set_option linter.unusedVariables false
set_option linter.unusedSimpArgs false

theorem tl0_impl_BendOf (env : Nat → Contract) {B : Base} (he_impl_ValidStroke : env n_impl_ValidStroke = .pure (C1 (fun c : Bool => enc c) t_impl_ValidStroke)) (he_impl_directionsOf : env n_impl_directionsOf = .pure (C1 (fun c : (Sl Int) => rS c) t_impl_directionsOf)) (s_ : Stroke) (o1 : Nat) (c5 : Bool) (c7 : (Sl Int)) (x9 : AV)  {st : Int × Int} {tm : TM} {h : Heap} (R : (fun (st : Int × Int) tm h12 => match st with | (w14, w15) => tm = [AV.agg [Sl.enc s_.points], AV.ptr o1 1 0 0, iv 0, iv 0, x9, iv w14, iv w15, AV.agg [Sl.enc s_.points], bv c5, bv (!c5), AV.agg [Sl.enc s_.points], x9, AV.top, AV.top, AV.top, AV.top, AV.top, AV.top, AV.top, AV.top, AV.top, AV.top, AV.top, AV.top, AV.top, AV.top, AV.top, AV.top, AV.top, AV.top, AV.top, AV.top, AV.top, AV.top, und] ∧ Hold B h12 [(AV.ptr o1 1 0 0, .pt 1 [Sl.enc s_.points]), (x9, obS (c7 : Sl Int))]) st tm h) : Sim (loopP hm0_impl_BendOf xm0_impl_BendOf (lb0_impl_BendOf env) tm h) (loopT (s0_impl_BendOf c7) st) (fun (q : Int) (r : Res) => match q with | q18 => ∃ (q19 : Int) (h16 : Heap), r = (.exit 0, [AV.agg [Sl.enc s_.points], AV.ptr o1 1 0 0, iv 0, iv 0, x9, iv q18, iv q19, AV.agg [Sl.enc s_.points], bv c5, bv (!c5), AV.agg [Sl.enc s_.points], x9, AV.top, AV.top, AV.top, AV.top, AV.top, AV.top, AV.top, AV.top, AV.top, AV.top, AV.top, AV.top, AV.top, AV.top, AV.top, AV.top, AV.top, AV.top, AV.top, AV.top, AV.top, AV.top, und], h16) ∧ Hold B h16 [(AV.ptr o1 1 0 0, .pt 1 [Sl.enc s_.points]), (x9, obS (c7 : Sl Int))]) := by
  refine loop_sim (Rel := fun (st : Int × Int) tm h12 => match st with | (w14, w15) => tm = [AV.agg [Sl.enc s_.points], AV.ptr o1 1 0 0, iv 0, iv 0, x9, iv w14, iv w15, AV.agg [Sl.enc s_.points], bv c5, bv (!c5), AV.agg [Sl.enc s_.points], x9, AV.top, AV.top, AV.top, AV.top, AV.top, AV.top, AV.top, AV.top, AV.top, AV.top, AV.top, AV.top, AV.top, AV.top, AV.top, AV.top, AV.top, AV.top, AV.top, AV.top, AV.top, AV.top, und] ∧ Hold B h12 [(AV.ptr o1 1 0 0, .pt 1 [Sl.enc s_.points]), (x9, obS (c7 : Sl Int))]) (fun st tm h12 R => ?_) R
  obtain ⟨w14, w15⟩ := st
  obtain ⟨rfl, O13⟩ := R
  rw [e_lb0_impl_BendOf]
  unfold s0_impl_BendOf
  dsimp only
  refine sim_let (v := iv (((c7.getD []).length : Nat) : Int)) (O13.tab (A := Int) (s := c7) 1 rfl).len ?_
  refine sim_let (v := bv (decide (w15 < (((c7.getD []).length : Nat) : Int)))) (aBin_lss _ _) ?_
  refine sim_cond (fun c20 => ?_) (fun c20 => ?_)
  · refine sim_get (O13.tab (A := Int) (s := c7) 1 rfl) (fun m22 a21 hi23 hm24 => ?_)
    refine sim_let (v := iv a21) ((O13.tab (A := Int) (s := c7) 1 rfl).ld hm24 false 1 0) ?_
    refine sim_let (v := iv (wr (w15 - 1))) (aBin_sub _ _) ?_
    refine sim_get (O13.tab (A := Int) (s := c7) 1 rfl) (fun m26 a25 hi27 hm28 => ?_)
    refine sim_let (v := iv a25) ((O13.tab (A := Int) (s := c7) 1 rfl).ld hm28 false 1 0) ?_
    refine sim_let (v := iv (wr (a21 - a25))) (aBin_sub _ _) ?_
    refine sim_let (v := iv (wr ((wr (a21 - a25)) + 8))) (aBin_add _ _) ?_
    refine sim_let (v := iv (wr ((wr ((wr (a21 - a25)) + 8)) + 3))) (aBin_add _ _) ?_
    refine sim_let (v := iv (Int.tmod (wr ((wr ((wr (a21 - a25)) + 8)) + 3)) 8)) (aBin_rem _ _ (by decide)) ?_
    refine sim_let (v := iv (wr ((Int.tmod (wr ((wr ((wr (a21 - a25)) + 8)) + 3)) 8) - 3))) (aBin_sub _ _) ?_
    refine sim_let (v := iv (wr (w14 + (wr ((Int.tmod (wr ((wr ((wr (a21 - a25)) + 8)) + 3)) 8) - 3))))) (aBin_add _ _) ?_
    refine sim_let (v := iv (wr (w15 + 1))) (aBin_add _ _) ?_
    exact sim_ret ⟨rfl, rfl, O13⟩
  · exact sim_ret ⟨nofun, _, _, rfl, O13⟩
theorem ts_impl_BendOf (env : Nat → Contract) (he_impl_ValidStroke : env n_impl_ValidStroke = .pure (C1 (fun c : Bool => enc c) t_impl_ValidStroke)) (he_impl_directionsOf : env n_impl_directionsOf = .pure (C1 (fun c : (Sl Int) => rS c) t_impl_directionsOf)) (s_ : Stroke) : Sim (denFn Try.prog env n_impl_BendOf [AV.agg [Sl.enc s_.points]] []) (t_impl_BendOf s_) fun c p => release p.2 depth p.1 = some ((fun c : Int × Int => AV.tup [enc c.1, enc c.2]) c) := by
  have O := Hold.nil []
  generalize hB : (⟨[], []⟩ : Base) = B at O
  clear hB
  rw [e_impl_BendOf]
  unfold t_impl_BendOf
  refine sim_box O (cs := [Sl.enc s_.points]) (by first | rfl | simp) (fun o1 h2 O3 => ?_)
  replace O3 : Hold B h2 [(AV.ptr o1 1 0 0, .pt 1 [Sl.enc s_.points])] := O3
  refine sim_let (v := AV.agg [Sl.enc s_.points]) (O3.ld 0 rfl true 1 0) ?_
  refine sim_call1 he_impl_ValidStroke (snapD_nr _ s_ rfl) (fun c5 => ?_)
  refine sim_let2 (hand_plain (by rfl) _ _) ?_
  refine sim_let (v := bv (!c5)) (aUn_not _) ?_
  refine sim_cond (fun c6 => ?_) (fun c6 => ?_)
  · exact sim_ret (release_plain (by rfl) _)
  · refine sim_let (v := AV.agg [Sl.enc s_.points]) (O3.ld 0 rfl true 1 0) ?_
    refine sim_call1 he_impl_directionsOf (snapD_nr _ s_ rfl) (fun c7 => ?_)
    refine sim_hand (A := Int) O3 (fun x9 h10 O11 => ?_)
    replace O11 : Hold B h10 [(AV.ptr o1 1 0 0, .pt 1 [Sl.enc s_.points]), (x9, obS (c7 : Sl Int))] := O11
    refine sim_bind ((tl0_impl_BendOf env he_impl_ValidStroke he_impl_directionsOf s_ o1 c5 c7 x9) ⟨rfl, O11⟩) (fun qq32 r hq => ?_)
    revert hq
    revert qq32
    intro q18 hq
    obtain ⟨q19, h16, rfl, O17⟩ := hq
    rw [e_lk0x0_impl_BendOf]
    exact sim_ret (release_plain (by rfl) _)
theorem tt_impl_BendOf : PureOK Try.prog n_impl_BendOf (C1 (fun c : Int × Int => AV.tup [enc c.1, enc c.2]) t_impl_BendOf) := pureC1 (Econs tt_impl_ValidStroke (Econs tt_impl_directionsOf E0)) mixed hb_impl_BendOf fun s_ => ts_impl_BendOf _ (by simp [envL]) (by simp [envL]) s_

def t_spec_l05Bend (a_ : Int) (b_ : Int) : Option Int :=
  bif decide (4 < (Int.tmod (wr ((wr (b_ - a_)) + 8)) 8)) then
    some (wr ((Int.tmod (wr ((wr (b_ - a_)) + 8)) 8) - 8))
  else
    some (Int.tmod (wr ((wr (b_ - a_)) + 8)) 8)

theorem ts_spec_l05Bend (env : Nat → Contract)  (a_ : Int) (b_ : Int) : Sim (denFn Try.prog env n_spec_l05Bend [iv a_, iv b_] []) (t_spec_l05Bend a_ b_) fun c p => release p.2 depth p.1 = some ((fun c : Int => enc c) c) := by
  have O := Hold.nil []
  generalize hB : (⟨[], []⟩ : Base) = B at O
  clear hB
  rw [e_spec_l05Bend]
  unfold t_spec_l05Bend
  refine sim_let (v := iv (wr (b_ - a_))) (aBin_sub _ _) ?_
  refine sim_let (v := iv (wr ((wr (b_ - a_)) + 8))) (aBin_add _ _) ?_
  refine sim_let (v := iv (Int.tmod (wr ((wr (b_ - a_)) + 8)) 8)) (aBin_rem _ _ (by decide)) ?_
  refine sim_let (v := bv (decide (4 < (Int.tmod (wr ((wr (b_ - a_)) + 8)) 8)))) (aBin_gtr _ _) ?_
  refine sim_cond (fun c1 => ?_) (fun c1 => ?_)
  · refine sim_let (v := iv (wr ((Int.tmod (wr ((wr (b_ - a_)) + 8)) 8) - 8))) (aBin_sub _ _) ?_
    exact sim_ret (release_plain (by rfl) _)
  · exact sim_ret (release_plain (by rfl) _)
theorem tt_spec_l05Bend : PureOK Try.prog n_spec_l05Bend (C2 (fun c : Int => enc c) t_spec_l05Bend) := pureC2 E0 mixed hb_spec_l05Bend fun a_ b_ => ts_spec_l05Bend _  a_ b_

def s0_spec_BendOf (c7 : (Sl Int)) : (Int × Int) → Option (Sum (Int × Int) Int) := fun (w14, w15) =>
  bif decide (w15 < (((c7.getD []).length : Nat) : Int)) then
    obind (getI (c7.getD []) (wr (w15 - 1))) fun a21 =>
    obind (getI (c7.getD []) w15) fun a25 =>
    obind (t_spec_l05Bend a21 a25) fun c29 =>
    some (.inl (wr (w14 + c29), wr (w15 + 1)))
  else
    some (.inr w14)
def t_spec_BendOf (s_ : Stroke) : Option (Int × Int) :=
  obind (t_spec_l02Stroke s_) fun c5 =>
  bif !c5 then
    some (0, 1)
  else
    obind (t_spec_l05Directions s_) fun c7 =>
    obind (loopT (s0_spec_BendOf c7) (0, 1)) fun q18 =>
    some (q18, 0)

theorem tl0_spec_BendOf (env : Nat → Contract) {B : Base} (he_spec_l02Stroke : env n_spec_l02Stroke = .pure (C1 (fun c : Bool => enc c) tp_spec_l02Stroke)) (he_spec_l05Bend : env n_spec_l05Bend = .pure (C2 (fun c : Int => enc c) t_spec_l05Bend)) (he_spec_l05Directions : env n_spec_l05Directions = .pure (C1 (fun c : (Sl Int) => rS c) tp_spec_l05Directions)) (s_ : Stroke) (o1 : Nat) (c5 : Bool) (c7 : (Sl Int)) (x9 : AV)  {st : Int × Int} {tm : TM} {h : Heap} (R : (fun (st : Int × Int) tm h12 => match st with | (w14, w15) => tm = [AV.agg [Sl.enc s_.points], AV.ptr o1 1 0 0, iv 0, iv 0, x9, iv w14, iv w15, bv c5, bv (!c5), x9, AV.top, AV.top, AV.top, AV.top, AV.top, AV.top, AV.top, AV.top, AV.top, AV.top, AV.top, AV.top, AV.top, AV.top, AV.top, AV.top, AV.top, AV.top, und] ∧ Hold B h12 [(AV.ptr o1 1 0 0, .pt 1 [Sl.enc s_.points]), (x9, obS (c7 : Sl Int))]) st tm h) : Sim (loopP hm0_spec_BendOf xm0_spec_BendOf (lb0_spec_BendOf env) tm h) (loopT (s0_spec_BendOf c7) st) (fun (q : Int) (r : Res) => match q with | q18 => ∃ (q19 : Int) (h16 : Heap), r = (.exit 0, [AV.agg [Sl.enc s_.points], AV.ptr o1 1 0 0, iv 0, iv 0, x9, iv q18, iv q19, bv c5, bv (!c5), x9, AV.top, AV.top, AV.top, AV.top, AV.top, AV.top, AV.top, AV.top, AV.top, AV.top, AV.top, AV.top, AV.top, AV.top, AV.top, AV.top, AV.top, AV.top, und], h16) ∧ Hold B h16 [(AV.ptr o1 1 0 0, .pt 1 [Sl.enc s_.points]), (x9, obS (c7 : Sl Int))]) := by
  refine loop_sim (Rel := fun (st : Int × Int) tm h12 => match st with | (w14, w15) => tm = [AV.agg [Sl.enc s_.points], AV.ptr o1 1 0 0, iv 0, iv 0, x9, iv w14, iv w15, bv c5, bv (!c5), x9, AV.top, AV.top, AV.top, AV.top, AV.top, AV.top, AV.top, AV.top, AV.top, AV.top, AV.top, AV.top, AV.top, AV.top, AV.top, AV.top, AV.top, AV.top, und] ∧ Hold B h12 [(AV.ptr o1 1 0 0, .pt 1 [Sl.enc s_.points]), (x9, obS (c7 : Sl Int))]) (fun st tm h12 R => ?_) R
  obtain ⟨w14, w15⟩ := st
  obtain ⟨rfl, O13⟩ := R
  rw [e_lb0_spec_BendOf]
  unfold s0_spec_BendOf
  dsimp only
  refine sim_let (v := iv (((c7.getD []).length : Nat) : Int)) (O13.tab (A := Int) (s := c7) 1 rfl).len ?_
  refine sim_let (v := bv (decide (w15 < (((c7.getD []).length : Nat) : Int)))) (aBin_lss _ _) ?_
  refine sim_cond (fun c20 => ?_) (fun c20 => ?_)
  · refine sim_let (v := iv (wr (w15 - 1))) (aBin_sub _ _) ?_
    refine sim_get (O13.tab (A := Int) (s := c7) 1 rfl) (fun m22 a21 hi23 hm24 => ?_)
    refine sim_let (v := iv a21) ((O13.tab (A := Int) (s := c7) 1 rfl).ld hm24 false 1 0) ?_
    refine sim_get (O13.tab (A := Int) (s := c7) 1 rfl) (fun m26 a25 hi27 hm28 => ?_)
    refine sim_let (v := iv a25) ((O13.tab (A := Int) (s := c7) 1 rfl).ld hm28 false 1 0) ?_
    refine sim_callQ2 he_spec_l05Bend (snapD_int _ _) (snapD_int _ _) (fun c29 => ?_)
    refine sim_let2 (hand_plain (by rfl) _ _) ?_
    refine sim_let (v := iv (wr (w14 + c29))) (aBin_add _ _) ?_
    refine sim_let (v := iv (wr (w15 + 1))) (aBin_add _ _) ?_
    exact sim_ret ⟨rfl, rfl, O13⟩
  · exact sim_ret ⟨nofun, _, _, rfl, O13⟩
theorem ts_spec_BendOf (env : Nat → Contract) (he_spec_l02Stroke : env n_spec_l02Stroke = .pure (C1 (fun c : Bool => enc c) tp_spec_l02Stroke)) (he_spec_l05Bend : env n_spec_l05Bend = .pure (C2 (fun c : Int => enc c) t_spec_l05Bend)) (he_spec_l05Directions : env n_spec_l05Directions = .pure (C1 (fun c : (Sl Int) => rS c) tp_spec_l05Directions)) (s_ : Stroke) : Sim (denFn Try.prog env n_spec_BendOf [AV.agg [Sl.enc s_.points]] []) (t_spec_BendOf s_) fun c p => release p.2 depth p.1 = some ((fun c : Int × Int => AV.tup [enc c.1, enc c.2]) c) := by
  have O := Hold.nil []
  generalize hB : (⟨[], []⟩ : Base) = B at O
  clear hB
  rw [e_spec_BendOf]
  unfold t_spec_BendOf
  refine sim_box O (cs := [Sl.enc s_.points]) (by first | rfl | simp) (fun o1 h2 O3 => ?_)
  replace O3 : Hold B h2 [(AV.ptr o1 1 0 0, .pt 1 [Sl.enc s_.points])] := O3
  refine sim_eqO (y' := tp_spec_l02Stroke ⟨[s_], 0⟩) (by simp only [tp_spec_l02Stroke, get_pt1, obind_sm]) ?_
  refine sim_call1 he_spec_l02Stroke (O3.snapRn 0 rfl s_ rfl rfl) (fun c5 => ?_)
  refine sim_let2 (hand_plain (by rfl) _ _) ?_
  refine sim_let (v := bv (!c5)) (aUn_not _) ?_
  refine sim_cond (fun c6 => ?_) (fun c6 => ?_)
  · exact sim_ret (release_plain (by rfl) _)
  · refine sim_eqO (y' := tp_spec_l05Directions ⟨[s_], 0⟩) (by simp only [tp_spec_l05Directions, get_pt1, obind_sm]) ?_
    refine sim_call1 he_spec_l05Directions (O3.snapRn 0 rfl s_ rfl rfl) (fun c7 => ?_)
    refine sim_hand (A := Int) O3 (fun x9 h10 O11 => ?_)
    replace O11 : Hold B h10 [(AV.ptr o1 1 0 0, .pt 1 [Sl.enc s_.points]), (x9, obS (c7 : Sl Int))] := O11
    refine sim_bind ((tl0_spec_BendOf env he_spec_l02Stroke he_spec_l05Bend he_spec_l05Directions s_ o1 c5 c7 x9) ⟨rfl, O11⟩) (fun qq33 r hq => ?_)
    revert hq
    revert qq33
    intro q18 hq
    obtain ⟨q19, h16, rfl, O17⟩ := hq
    rw [e_lk0x0_spec_BendOf]
    exact sim_ret (release_plain (by rfl) _)
theorem tt_spec_BendOf : PureOK Try.prog n_spec_BendOf (C1 (fun c : Int × Int => AV.tup [enc c.1, enc c.2]) t_spec_BendOf) := pureC1 (Econs tt_spec_l02Stroke (Econs tt_spec_l05Bend (Econs tt_spec_l05Directions E0))) mixed hb_spec_BendOf fun s_ => ts_spec_BendOf _ (by simp [envL]) (by simp [envL]) (by simp [envL]) s_

def s0_laws_f6ints (a_ : Sl Int) (b_ : Sl Int) : Int → Option (Sum Int (Sum Unit Bool)) := fun w4 =>
  bif decide (w4 < (((a_.getD []).length : Nat) : Int)) then
    obind (getI (a_.getD []) w4) fun a14 =>
    obind (getI (b_.getD []) w4) fun a18 =>
    bif !decide (a14 = a18) then
      some (.inr (.inr false))
    else
      some (.inl (wr (w4 + 1)))
  else
    some (.inr (.inl ()))
def t_laws_f6ints (a_ : Sl Int) (b_ : Sl Int) : Option Bool :=
  bif !decide ((((a_.getD []).length : Nat) : Int) = (((b_.getD []).length : Nat) : Int)) then
    some false
  else
    obind (loopT (s0_laws_f6ints a_ b_) 0) fun qq27 => match qq27 with
    | (.inl _) =>
        some true
    | (.inr q11) =>
        some q11

theorem tl0_laws_f6ints (env : Nat → Contract) {B : Base}  (a_ : Sl Int) (b_ : Sl Int)  {st : Int} {tm : TM} {h : Heap} (R : (fun (st : Int) tm h2 => match st with | w4 => tm = [Sl.enc a_, Sl.enc b_, und, und, AV.top, iv w4, Sl.enc a_, iv (((a_.getD []).length : Nat) : Int), Sl.enc b_, iv (((b_.getD []).length : Nat) : Int), bv (!decide ((((a_.getD []).length : Nat) : Int) = (((b_.getD []).length : Nat) : Int))), AV.top, AV.top, AV.top, AV.top, AV.top, AV.top, AV.top, AV.top, AV.top, AV.top, AV.top, AV.top, AV.top, AV.top, AV.top] ∧ Hold B h2 []) st tm h) : Sim (loopP hm0_laws_f6ints xm0_laws_f6ints (lb0_laws_f6ints env) tm h) (loopT (s0_laws_f6ints a_ b_) st) (fun (q : Sum Unit Bool) (r : Res) => match q with | .inl _ => ∃ (q8 : Int) (z7 : AV) (h5 : Heap), r = (.exit 0, [Sl.enc a_, Sl.enc b_, und, und, z7, iv q8, Sl.enc a_, iv (((a_.getD []).length : Nat) : Int), Sl.enc b_, iv (((b_.getD []).length : Nat) : Int), bv (!decide ((((a_.getD []).length : Nat) : Int) = (((b_.getD []).length : Nat) : Int))), AV.top, AV.top, AV.top, AV.top, AV.top, AV.top, AV.top, AV.top, AV.top, AV.top, AV.top, AV.top, AV.top, AV.top, AV.top], h5) ∧ Hold B h5 [] | .inr q11 => ∃ (q12 : Int) (h9 : Heap), r = (.ret, [Sl.enc a_, Sl.enc b_, und, und, bv q11, iv q12, Sl.enc a_, iv (((a_.getD []).length : Nat) : Int), Sl.enc b_, iv (((b_.getD []).length : Nat) : Int), bv (!decide ((((a_.getD []).length : Nat) : Int) = (((b_.getD []).length : Nat) : Int))), AV.top, AV.top, AV.top, AV.top, AV.top, AV.top, AV.top, AV.top, AV.top, AV.top, AV.top, AV.top, AV.top, AV.top, AV.top], h9) ∧ Hold B h9 []) := by
  refine loop_sim (Rel := fun (st : Int) tm h2 => match st with | w4 => tm = [Sl.enc a_, Sl.enc b_, und, und, AV.top, iv w4, Sl.enc a_, iv (((a_.getD []).length : Nat) : Int), Sl.enc b_, iv (((b_.getD []).length : Nat) : Int), bv (!decide ((((a_.getD []).length : Nat) : Int) = (((b_.getD []).length : Nat) : Int))), AV.top, AV.top, AV.top, AV.top, AV.top, AV.top, AV.top, AV.top, AV.top, AV.top, AV.top, AV.top, AV.top, AV.top, AV.top] ∧ Hold B h2 []) (fun w4 tm h2 R => ?_) R
  obtain ⟨rfl, O3⟩ := R
  rw [e_lb0_laws_f6ints]
  unfold s0_laws_f6ints
  dsimp only
  refine sim_let (v := iv (((a_.getD []).length : Nat) : Int)) (Tab.enc h2 a_).len ?_
  refine sim_let (v := bv (decide (w4 < (((a_.getD []).length : Nat) : Int)))) (aBin_lss _ _) ?_
  refine sim_cond (fun c13 => ?_) (fun c13 => ?_)
  · refine sim_get (Tab.enc h2 a_) (fun m15 a14 hi16 hm17 => ?_)
    refine sim_let (v := iv a14) ((Tab.enc h2 a_).ld hm17 false 1 0) ?_
    refine sim_get (Tab.enc h2 b_) (fun m19 a18 hi20 hm21 => ?_)
    refine sim_let (v := iv a18) ((Tab.enc h2 b_).ld hm21 false 1 0) ?_
    refine sim_let (v := bv (!decide (a14 = a18))) (aCmp_ne _ _) ?_
    refine sim_cond (fun c22 => ?_) (fun c22 => ?_)
    · exact sim_ret ⟨nofun, _, _, rfl, O3⟩
    · refine sim_let (v := iv (wr (w4 + 1))) (aBin_add _ _) ?_
      exact sim_ret ⟨rfl, rfl, O3⟩
  · exact sim_ret ⟨nofun, _, _, _, rfl, O3⟩
theorem ts_laws_f6ints (env : Nat → Contract)  (a_ : Sl Int) (b_ : Sl Int) : Sim (denFn Try.prog env n_laws_f6ints [Sl.enc a_, Sl.enc b_] []) (t_laws_f6ints a_ b_) fun c p => release p.2 depth p.1 = some ((fun c : Bool => enc c) c) := by
  have O := Hold.nil []
  generalize hB : (⟨[], []⟩ : Base) = B at O
  clear hB
  rw [e_laws_f6ints]
  unfold t_laws_f6ints
  refine sim_let (v := iv (((a_.getD []).length : Nat) : Int)) (Tab.enc [] a_).len ?_
  refine sim_let (v := iv (((b_.getD []).length : Nat) : Int)) (Tab.enc [] b_).len ?_
  refine sim_let (v := bv (!decide ((((a_.getD []).length : Nat) : Int) = (((b_.getD []).length : Nat) : Int)))) (aCmp_ne _ _) ?_
  refine sim_cond (fun c1 => ?_) (fun c1 => ?_)
  · exact sim_ret (release_plain (by rfl) _)
  · refine sim_bind ((tl0_laws_f6ints env a_ b_) ⟨rfl, O⟩) (fun qq27 r hq => ?_)
    rcases qq27 with _ | q11
    · obtain ⟨q8, z7, h5, rfl, O6⟩ := hq
      rw [e_lk0x0_laws_f6ints]
      exact sim_ret (release_plain (by rfl) _)
    · obtain ⟨q12, h9, rfl, O10⟩ := hq
      rw [e_lk0r_laws_f6ints]
      exact sim_ret (release_plain (by rfl) _)
theorem tt_laws_f6ints : PureOK Try.prog n_laws_f6ints (C2 (fun c : Bool => enc c) t_laws_f6ints) := pureC2 E0 mixed hb_laws_f6ints fun a_ b_ => ts_laws_f6ints _  a_ b_

def t_laws_FnDirections (code_ : Sl UInt8) : Option Bool :=
  obind (t_laws_f6big code_) fun c1 =>
  bif c1 then
    some true
  else
    obind (t_spec_DrawDirectionOf code_) fun c3 =>
    obind (t_impl_DirectionOf c3.1 c3.2) fun c4 =>
    obind (t_spec_DirectionOf c3.1 c3.2) fun c5 =>
    obind (t_spec_DrawDirectionsOf code_) fun c6 =>
    obind (t_impl_DirectionsOf c6) fun c17 =>
    obind (t_spec_DirectionsOf c6) fun c22 =>
    obind (t_impl_BendOf c6) fun c27 =>
    obind (t_spec_BendOf c6) fun c28 =>
    obind (bif !decide (c4.2 = c5.2) then some false else (some (!decide (c4.1 = c5.1)))) fun c30 =>
    obind (bif (bif !decide (c4.2 = c5.2) then true else c30) then some false else (some (!decide (c17.2 = c22.2)))) fun c32 =>
    obind (bif (bif (bif !decide (c4.2 = c5.2) then true else c30) then true else c32) then some false else (obind (t_laws_f6ints c17.1 c22.1) fun c34 => some (!c34))) fun c35 =>
    obind (bif (bif (bif (bif !decide (c4.2 = c5.2) then true else c30) then true else c32) then true else c35) then some false else (some (!decide (c27.2 = c28.2)))) fun c37 =>
    obind (bif (bif (bif (bif (bif !decide (c4.2 = c5.2) then true else c30) then true else c32) then true else c35) then true else c37) then some false else (some (!decide (c27.1 = c28.1)))) fun c39 =>
    bif (bif (bif (bif (bif (bif !decide (c4.2 = c5.2) then true else c30) then true else c32) then true else c35) then true else c37) then true else c39) then
      some false
    else
      obind (bif decide (c17.2 = 0) then (some (decide (0 < (((c17.1.getD []).length : Nat) : Int)))) else some false) fun c42 =>
      obind (bif (bif decide (c17.2 = 0) then c42 else false) then (obind (getI (c17.1.getD []) (wr ((((c17.1.getD []).length : Nat) : Int) - 1))) fun a46 => obind (getI (c17.1.getD []) 0) fun a50 => some (!decide (Int.tmod (wr ((wr (c27.1 - a46)) + a50)) 8 = 0))) else some false) fun c54 =>
      bif (bif (bif decide (c17.2 = 0) then c42 else false) then c54 else false) then
        some false
      else
        bif !decide (c4.2 = 0) then
          some true
        else
          obind (t_impl_DirectionOf (wr (0 - c3.1)) (wr (0 - c3.2))) fun c70 =>
          obind (t_impl_DirectionOf (wr (0 - c3.2)) c3.1) fun c71 =>
          obind (t_impl_DirectionOf c3.1 (wr (0 - c3.2))) fun c72 =>
          obind (bif decide (c70.2 = 0) then (some (decide (c71.2 = 0))) else some false) fun c74 =>
          obind (bif (bif decide (c70.2 = 0) then c74 else false) then (some (decide (c72.2 = 0))) else some false) fun c76 =>
          obind (bif (bif (bif decide (c70.2 = 0) then c74 else false) then c76 else false) then (some (decide (c70.1 = Int.tmod (wr (c4.1 + 4)) 8))) else some false) fun c78 =>
          obind (bif (bif (bif (bif decide (c70.2 = 0) then c74 else false) then c76 else false) then c78 else false) then (some (decide (c71.1 = Int.tmod (wr (c4.1 + 2)) 8))) else some false) fun c80 =>
          obind (bif (bif (bif (bif (bif decide (c70.2 = 0) then c74 else false) then c76 else false) then c78 else false) then c80 else false) then (some (decide (c72.1 = Int.tmod (wr (8 - c4.1)) 8))) else some false) fun c82 =>
          some (bif (bif (bif (bif (bif decide (c70.2 = 0) then c74 else false) then c76 else false) then c78 else false) then c80 else false) then c82 else false)

theorem ts_laws_FnDirections (env : Nat → Contract) (he_impl_BendOf : env n_impl_BendOf = .pure (C1 (fun c : Int × Int => AV.tup [enc c.1, enc c.2]) t_impl_BendOf)) (he_impl_DirectionOf : env n_impl_DirectionOf = .pure (C2 (fun c : Int × Int => AV.tup [enc c.1, enc c.2]) t_impl_DirectionOf)) (he_impl_DirectionsOf : env n_impl_DirectionsOf = .pure (C1 (fun c : (Sl Int) × Int => AV.tup [rS c.1, enc c.2]) t_impl_DirectionsOf)) (he_laws_f6big : env n_laws_f6big = .pure (C1 (fun c : Bool => enc c) t_laws_f6big)) (he_laws_f6ints : env n_laws_f6ints = .pure (C2 (fun c : Bool => enc c) t_laws_f6ints)) (he_spec_BendOf : env n_spec_BendOf = .pure (C1 (fun c : Int × Int => AV.tup [enc c.1, enc c.2]) t_spec_BendOf)) (he_spec_DirectionOf : env n_spec_DirectionOf = .pure (C2 (fun c : Int × Int => AV.tup [enc c.1, enc c.2]) t_spec_DirectionOf)) (he_spec_DirectionsOf : env n_spec_DirectionsOf = .pure (C1 (fun c : (Sl Int) × Int => AV.tup [rS c.1, enc c.2]) t_spec_DirectionsOf)) (he_spec_DrawDirectionOf : env n_spec_DrawDirectionOf = .pure (C1 (fun c : Int × Int => AV.tup [enc c.1, enc c.2]) t_spec_DrawDirectionOf)) (he_spec_DrawDirectionsOf : env n_spec_DrawDirectionsOf = .pure (C1 (fun c : Stroke => AV.agg [rS c.points]) t_spec_DrawDirectionsOf)) (code_ : Sl UInt8) : Sim (denFn Try.prog env n_laws_FnDirections [Sl.enc code_] []) (t_laws_FnDirections code_) fun c p => release p.2 depth p.1 = some ((fun c : Bool => enc c) c) := by
  have O := Hold.nil []
  generalize hB : (⟨[], []⟩ : Base) = B at O
  clear hB
  rw [e_laws_FnDirections]
  unfold t_laws_FnDirections
  refine sim_call1 he_laws_f6big (snapD_enc _ _) (fun c1 => ?_)
  refine sim_let2 (hand_plain (by rfl) _ _) ?_
  refine sim_cond (fun c2 => ?_) (fun c2 => ?_)
  · exact sim_ret (release_plain (by rfl) _)
  · refine sim_call1 he_spec_DrawDirectionOf (snapD_enc _ _) (fun c3 => ?_)
    refine sim_let2 (hand_plain (by rfl) _ _) ?_
    refine sim_let (v := iv c3.1) rfl ?_
    refine sim_let (v := iv c3.2) rfl ?_
    refine sim_call2 he_impl_DirectionOf (snapD_int _ _) (snapD_int _ _) (fun c4 => ?_)
    refine sim_let2 (hand_plain (by rfl) _ _) ?_
    refine sim_let (v := iv c4.1) rfl ?_
    refine sim_let (v := iv c4.2) rfl ?_
    refine sim_call2 he_spec_DirectionOf (snapD_int _ _) (snapD_int _ _) (fun c5 => ?_)
    refine sim_let2 (hand_plain (by rfl) _ _) ?_
    refine sim_let (v := iv c5.1) rfl ?_
    refine sim_let (v := iv c5.2) rfl ?_
    refine sim_call1 he_spec_DrawDirectionsOf (snapD_enc _ _) (fun c6 => ?_)
    refine sim_hand1 O (c6.points : Sl Point) (fun z1 => AV.agg [z1]) (by intro b; simp only [mat_tup, mat_aggD, mat_agg, matLc, matLn, mat_iv, mat_bv, mat_sv, mat_bt, mat_nilS, mat_rS, List.append_nil, List.nil_append, List.length_nil, Nat.add_zero]) (by simp only [noF_tup, noF_aggD, noF_agg, noF_iv, noF_bv, noF_sv, noF_bt, noF_nilS, noF_rS, List.all_cons, List.all_nil, Bool.and_self]) (fun x8 h9 O10 => ?_)
    replace O10 : Hold B h9 [(x8, obS (c6.points : Sl Point))] := O10
    refine sim_box O10 (cs := [nilS]) (by first | rfl | simp) (fun o11 h12 O13 => ?_)
    replace O13 : Hold B h12 [(x8, obS (c6.points : Sl Point)), (AV.ptr o11 1 0 0, .pt 1 [nilS])] := O13
    refine sim_store O13 1 (cs' := [x8]) rfl (by first | rfl | simp [(O13.one (A := Point) (s := c6.points) 0 rfl).1, (O13.one (A := Point) (s := c6.points) 0 rfl).2]) (by simp) (by first | rfl | simp [(O13.one (A := Point) (s := c6.points) 0 rfl).1, (O13.one (A := Point) (s := c6.points) 0 rfl).2]) (by first | rfl | simp [splice, (O13.one (A := Point) (s := c6.points) 0 rfl).1, (O13.one (A := Point) (s := c6.points) 0 rfl).2]) (fun h15 O16 => ?_)
    replace O16 : Hold B h15 [(x8, obS (c6.points : Sl Point)), (AV.ptr o11 1 0 0, .pt 1 [x8])] := O16
    refine sim_let (v := AV.agg [x8]) (O16.ld 1 rfl true 1 0) ?_
    refine sim_call1 he_impl_DirectionsOf (snapD_own h15 c6 rfl (by simp [omap, O16.snap7 (A := Point) (s := c6.points) 0 rfl])) (fun c17 => ?_)
    refine sim_hand1 O16 (c17.1 : Sl Int) (fun z1 => AV.tup [z1, iv c17.2]) (by intro b; simp only [mat_tup, mat_aggD, mat_agg, matLc, matLn, mat_iv, mat_bv, mat_sv, mat_bt, mat_nilS, mat_rS, List.append_nil, List.nil_append, List.length_nil, Nat.add_zero]) (by simp only [noF_tup, noF_aggD, noF_agg, noF_iv, noF_bv, noF_sv, noF_bt, noF_nilS, noF_rS, List.all_cons, List.all_nil, Bool.and_self]) (fun x19 h20 O21 => ?_)
    replace O21 : Hold B h20 [(x8, obS (c6.points : Sl Point)), (AV.ptr o11 1 0 0, .pt 1 [x8]), (x19, obS (c17.1 : Sl Int))] := O21
    refine sim_let (v := x19) rfl ?_
    refine sim_let (v := iv c17.2) rfl ?_
    refine sim_let (v := AV.agg [x8]) (O21.ld 1 rfl true 1 0) ?_
    refine sim_call1 he_spec_DirectionsOf (snapD_own h20 c6 rfl (by simp [omap, O21.snap7 (A := Point) (s := c6.points) 0 rfl])) (fun c22 => ?_)
    refine sim_hand1 O21 (c22.1 : Sl Int) (fun z1 => AV.tup [z1, iv c22.2]) (by intro b; simp only [mat_tup, mat_aggD, mat_agg, matLc, matLn, mat_iv, mat_bv, mat_sv, mat_bt, mat_nilS, mat_rS, List.append_nil, List.nil_append, List.length_nil, Nat.add_zero]) (by simp only [noF_tup, noF_aggD, noF_agg, noF_iv, noF_bv, noF_sv, noF_bt, noF_nilS, noF_rS, List.all_cons, List.all_nil, Bool.and_self]) (fun x24 h25 O26 => ?_)
    replace O26 : Hold B h25 [(x8, obS (c6.points : Sl Point)), (AV.ptr o11 1 0 0, .pt 1 [x8]), (x19, obS (c17.1 : Sl Int)), (x24, obS (c22.1 : Sl Int))] := O26
    refine sim_let (v := x24) rfl ?_
    refine sim_let (v := iv c22.2) rfl ?_
    refine sim_let (v := AV.agg [x8]) (O26.ld 1 rfl true 1 0) ?_
    refine sim_call1 he_impl_BendOf (snapD_own h25 c6 rfl (by simp [omap, O26.snap7 (A := Point) (s := c6.points) 0 rfl])) (fun c27 => ?_)
    refine sim_let2 (hand_plain (by rfl) _ _) ?_
    refine sim_let (v := iv c27.1) rfl ?_
    refine sim_let (v := iv c27.2) rfl ?_
    refine sim_let (v := AV.agg [x8]) (O26.ld 1 rfl true 1 0) ?_
    refine sim_call1 he_spec_BendOf (snapD_own h25 c6 rfl (by simp [omap, O26.snap7 (A := Point) (s := c6.points) 0 rfl])) (fun c28 => ?_)
    refine sim_let2 (hand_plain (by rfl) _ _) ?_
    refine sim_let (v := iv c28.1) rfl ?_
    refine sim_let (v := iv c28.2) rfl ?_
    refine sim_let (v := bv (!decide (c4.2 = c5.2))) (aCmp_ne _ _) ?_
    refine sim_guardF (e := bv) (fun hb29 => ?_) (fun c30 => ?_)
    · refine sim_let (v := bv (!decide (c4.1 = c5.1))) (aCmp_ne _ _) ?_
      exact sim_ret rfl
    · refine sim_let (v := bv (bif !decide (c4.2 = c5.2) then true else c30)) (pick_b' _ _ _) ?_
      refine sim_guardF (e := bv) (fun hb31 => ?_) (fun c32 => ?_)
      · refine sim_let (v := bv (!decide (c17.2 = c22.2))) (aCmp_ne _ _) ?_
        exact sim_ret rfl
      · refine sim_let (v := bv (bif (bif !decide (c4.2 = c5.2) then true else c30) then true else c32)) (pick_b' _ _ _) ?_
        refine sim_guardF (e := bv) (fun hb33 => ?_) (fun c35 => ?_)
        · refine sim_call2 he_laws_f6ints ((O26.tab (A := Int) (s := c17.1) 2 rfl).snap) ((O26.tab (A := Int) (s := c22.1) 3 rfl).snap) (fun c34 => ?_)
          refine sim_let2 (hand_plain (by rfl) _ _) ?_
          refine sim_let (v := bv (!c34)) (aUn_not _) ?_
          exact sim_ret rfl
        · refine sim_let (v := bv (bif (bif (bif !decide (c4.2 = c5.2) then true else c30) then true else c32) then true else c35)) (pick_b' _ _ _) ?_
          refine sim_guardF (e := bv) (fun hb36 => ?_) (fun c37 => ?_)
          · refine sim_let (v := bv (!decide (c27.2 = c28.2))) (aCmp_ne _ _) ?_
            exact sim_ret rfl
          · refine sim_let (v := bv (bif (bif (bif (bif !decide (c4.2 = c5.2) then true else c30) then true else c32) then true else c35) then true else c37)) (pick_b' _ _ _) ?_
            refine sim_guardF (e := bv) (fun hb38 => ?_) (fun c39 => ?_)
            · refine sim_let (v := bv (!decide (c27.1 = c28.1))) (aCmp_ne _ _) ?_
              exact sim_ret rfl
            · refine sim_let (v := bv (bif (bif (bif (bif (bif !decide (c4.2 = c5.2) then true else c30) then true else c32) then true else c35) then true else c37) then true else c39)) (pick_b' _ _ _) ?_
              refine sim_cond (fun c40 => ?_) (fun c40 => ?_)
              · exact sim_ret (release_plain (by rfl) _)
              · refine sim_let (v := bv (decide (c17.2 = 0))) (aCmp_eq _ _) ?_
                refine sim_g3T (e := bv) (fun hb41 => ?_) (fun y43 y44 c42 => ?_)
                · refine sim_o0 ?_
                  refine sim_o1 ?_
                  refine sim_let (v := iv (((c17.1.getD []).length : Nat) : Int)) (O26.tab (A := Int) (s := c17.1) 2 rfl).len ?_
                  refine sim_o0 ?_
                  refine sim_let (v := bv (decide (0 < (((c17.1.getD []).length : Nat) : Int)))) (aBin_gtr _ _) ?_
                  exact sim_ret rfl
                · refine sim_let (v := bv (bif decide (c17.2 = 0) then c42 else false)) (pick_b _ _ _) ?_
                  refine sim_g14T (e := bv) (fun hb45 => ?_) (fun y55 y56 y57 y58 y59 y60 y61 y62 y63 y64 y65 y66 y67 c54 => ?_)
                  · refine sim_o0 ?_
                    refine sim_o0 ?_
                    refine sim_o0 ?_
                    refine sim_o1 ?_
                    refine sim_let (v := iv (((c17.1.getD []).length : Nat) : Int)) (O26.tab (A := Int) (s := c17.1) 2 rfl).len ?_
                    refine sim_o0 ?_
                    refine sim_o1 ?_
                    refine sim_let (v := iv (wr ((((c17.1.getD []).length : Nat) : Int) - 1))) (aBin_sub _ _) ?_
                    refine sim_o0 ?_
                    refine sim_o1 ?_
                    refine sim_get (O26.tab (A := Int) (s := c17.1) 2 rfl) (fun m47 a46 hi48 hm49 => ?_)
                    refine sim_o0 ?_
                    refine sim_o1 ?_
                    refine sim_let (v := iv a46) ((O26.tab (A := Int) (s := c17.1) 2 rfl).ld hm49 false 1 0) ?_
                    refine sim_o0 ?_
                    refine sim_o1 ?_
                    refine sim_let (v := iv (wr (c27.1 - a46))) (aBin_sub _ _) ?_
                    refine sim_o0 ?_
                    refine sim_o0 ?_
                    refine sim_o1 ?_
                    refine sim_get (O26.tab (A := Int) (s := c17.1) 2 rfl) (fun m51 a50 hi52 hm53 => ?_)
                    refine sim_o0 ?_
                    refine sim_o1 ?_
                    refine sim_let (v := iv a50) ((O26.tab (A := Int) (s := c17.1) 2 rfl).ld hm53 false 1 0) ?_
                    refine sim_o0 ?_
                    refine sim_o1 ?_
                    refine sim_let (v := iv (wr ((wr (c27.1 - a46)) + a50))) (aBin_add _ _) ?_
                    refine sim_o0 ?_
                    refine sim_o1 ?_
                    refine sim_let (v := iv (Int.tmod (wr ((wr (c27.1 - a46)) + a50)) 8)) (aBin_rem _ _ (by decide)) ?_
                    refine sim_o0 ?_
                    refine sim_let (v := bv (!decide (Int.tmod (wr ((wr (c27.1 - a46)) + a50)) 8 = 0))) (aCmp_ne _ _) ?_
                    exact sim_ret rfl
                  · refine sim_let (v := bv (bif (bif decide (c17.2 = 0) then c42 else false) then c54 else false)) (pick_b _ _ _) ?_
                    refine sim_cond (fun c68 => ?_) (fun c68 => ?_)
                    · exact sim_ret (release_plain (by rfl) _)
                    · refine sim_let (v := bv (!decide (c4.2 = 0))) (aCmp_ne _ _) ?_
                      refine sim_cond (fun c69 => ?_) (fun c69 => ?_)
                      · exact sim_ret (release_plain (by rfl) _)
                      · refine sim_let (v := iv (wr (0 - c3.1))) (aUn_neg _) ?_
                        refine sim_let (v := iv (wr (0 - c3.2))) (aUn_neg _) ?_
                        refine sim_call2 he_impl_DirectionOf (snapD_int _ _) (snapD_int _ _) (fun c70 => ?_)
                        refine sim_let2 (hand_plain (by rfl) _ _) ?_
                        refine sim_let (v := iv c70.1) rfl ?_
                        refine sim_let (v := iv c70.2) rfl ?_
                        refine sim_let (v := iv (wr (0 - c3.2))) (aUn_neg _) ?_
                        refine sim_call2 he_impl_DirectionOf (snapD_int _ _) (snapD_int _ _) (fun c71 => ?_)
                        refine sim_let2 (hand_plain (by rfl) _ _) ?_
                        refine sim_let (v := iv c71.1) rfl ?_
                        refine sim_let (v := iv c71.2) rfl ?_
                        refine sim_let (v := iv (wr (0 - c3.2))) (aUn_neg _) ?_
                        refine sim_call2 he_impl_DirectionOf (snapD_int _ _) (snapD_int _ _) (fun c72 => ?_)
                        refine sim_let2 (hand_plain (by rfl) _ _) ?_
                        refine sim_let (v := iv c72.1) rfl ?_
                        refine sim_let (v := iv c72.2) rfl ?_
                        refine sim_let (v := bv (decide (c70.2 = 0))) (aCmp_eq _ _) ?_
                        refine sim_guardT (e := bv) (fun hb73 => ?_) (fun c74 => ?_)
                        · refine sim_let (v := bv (decide (c71.2 = 0))) (aCmp_eq _ _) ?_
                          exact sim_ret rfl
                        · refine sim_let (v := bv (bif decide (c70.2 = 0) then c74 else false)) (pick_b _ _ _) ?_
                          refine sim_guardT (e := bv) (fun hb75 => ?_) (fun c76 => ?_)
                          · refine sim_let (v := bv (decide (c72.2 = 0))) (aCmp_eq _ _) ?_
                            exact sim_ret rfl
                          · refine sim_let (v := bv (bif (bif decide (c70.2 = 0) then c74 else false) then c76 else false)) (pick_b _ _ _) ?_
                            refine sim_guardT (e := bv) (fun hb77 => ?_) (fun c78 => ?_)
                            · refine sim_let (v := iv (wr (c4.1 + 4))) (aBin_add _ _) ?_
                              refine sim_let (v := iv (Int.tmod (wr (c4.1 + 4)) 8)) (aBin_rem _ _ (by decide)) ?_
                              refine sim_let (v := bv (decide (c70.1 = Int.tmod (wr (c4.1 + 4)) 8))) (aCmp_eq _ _) ?_
                              exact sim_ret rfl
                            · refine sim_let (v := bv (bif (bif (bif decide (c70.2 = 0) then c74 else false) then c76 else false) then c78 else false)) (pick_b _ _ _) ?_
                              refine sim_guardT (e := bv) (fun hb79 => ?_) (fun c80 => ?_)
                              · refine sim_let (v := iv (wr (c4.1 + 2))) (aBin_add _ _) ?_
                                refine sim_let (v := iv (Int.tmod (wr (c4.1 + 2)) 8)) (aBin_rem _ _ (by decide)) ?_
                                refine sim_let (v := bv (decide (c71.1 = Int.tmod (wr (c4.1 + 2)) 8))) (aCmp_eq _ _) ?_
                                exact sim_ret rfl
                              · refine sim_let (v := bv (bif (bif (bif (bif decide (c70.2 = 0) then c74 else false) then c76 else false) then c78 else false) then c80 else false)) (pick_b _ _ _) ?_
                                refine sim_guardT (e := bv) (fun hb81 => ?_) (fun c82 => ?_)
                                · refine sim_let (v := iv (wr (8 - c4.1))) (aBin_sub _ _) ?_
                                  refine sim_let (v := iv (Int.tmod (wr (8 - c4.1)) 8)) (aBin_rem _ _ (by decide)) ?_
                                  refine sim_let (v := bv (decide (c72.1 = Int.tmod (wr (8 - c4.1)) 8))) (aCmp_eq _ _) ?_
                                  exact sim_ret rfl
                                · refine sim_let (v := bv (bif (bif (bif (bif (bif decide (c70.2 = 0) then c74 else false) then c76 else false) then c78 else false) then c80 else false) then c82 else false)) (pick_b _ _ _) ?_
                                  exact sim_ret (release_plain (by rfl) _)
theorem tt_laws_FnDirections : PureOK Try.prog n_laws_FnDirections (C1 (fun c : Bool => enc c) t_laws_FnDirections) := pureC1 (Econs tt_impl_BendOf (Econs tt_impl_DirectionOf (Econs tt_impl_DirectionsOf (Econs tt_laws_f6big (Econs tt_laws_f6ints (Econs tt_spec_BendOf (Econs tt_spec_DirectionOf (Econs tt_spec_DirectionsOf (Econs tt_spec_DrawDirectionOf (Econs tt_spec_DrawDirectionsOf E0)))))))))) mixed hb_laws_FnDirections fun code_ => ts_laws_FnDirections _ (by simp [envL]) (by simp [envL]) (by simp [envL]) (by simp [envL]) (by simp [envL]) (by simp [envL]) (by simp [envL]) (by simp [envL]) (by simp [envL]) (by simp [envL]) code_

/-- The source has been read up to `k` at most. -/
structure SK (s : l00Src) (k : Int) : Prop where
  lo : 0 ≤ s.pos
  hi : s.pos ≤ k

theorem SK.mono {s : l00Src} {k k' : Int} (h : SK s k) (hk : k ≤ k') : SK s k' := ⟨h.lo, by have := h.hi; omega⟩

theorem and255 (a : Int) : 0 ≤ wr (IntKind.u64.wrap ((BitVec.ofInt 64 a &&& BitVec.ofInt 64 255).toNat : Nat)) ∧ wr (IntKind.u64.wrap ((BitVec.ofInt 64 a &&& BitVec.ofInt 64 255).toNat : Nat)) ≤ 255 := by
  have h1 : (BitVec.ofInt 64 a &&& BitVec.ofInt 64 255).toNat ≤ 255 := by
    rw [BitVec.toNat_and]
    have : (BitVec.ofInt 64 255).toNat = 255 := by decide
    rw [this]
    exact Nat.and_le_right
  generalize (BitVec.ofInt 64 a &&& BitVec.ofInt 64 255).toNat = r at h1
  have h2 : IntKind.u64.wrap (r : Int) = r := by
    simp only [IntKind.wrap, IntKind.bits, IntKind.signed]
    simp only [Bool.false_and, Bool.false_eq_true, if_false]
    omega
  rw [h2, wr_id (by omega) (by omega)]
  omega

theorem getI_in {A : Type} {l : List A} {i : Int} (h0 : 0 ≤ i) (h1 : i < (l.length : Nat)) : ∃ a, getI l i = some a ∧ l[i.toNat]? = some a := by
  obtain ⟨m, rfl⟩ := Int.eq_ofNat_of_zero_le h0
  have h2 : m < l.length := by omega
  exact ⟨l[m], getI_nat (List.getElem?_eq_getElem h2), by simp [h2]⟩

theorem remI_pos {a b : Int} (ha : 0 ≤ a) (hb : 0 < b) : ∃ r, remI a b = some r ∧ 0 ≤ r ∧ r < b := by
  refine ⟨a.tmod b, ?_, Int.tmod_nonneg b ha, Int.tmod_lt_of_pos a hb⟩
  have : ¬ b = 0 := by omega
  simp [remI, this]

theorem dr_next {s : l00Src} {k : Int} (h : SK s k) (hk : k ≤ 1000000000000) : ∃ r s', t_spec_l00Src_next s = some (r, s') ∧ SK s' (k + 1) ∧ 0 ≤ r ∧ r ≤ 255 := by
  obtain ⟨h1, h2⟩ := h
  have w : wr (s.pos + 1) = s.pos + 1 := wr_id (by omega) (by omega)
  have b1 := fun a => (and255 a).1
  have b2 := fun a => (and255 a).2
  unfold t_spec_l00Src_next
  rw [w]
  by_cases c : s.pos < ((s.code.getD []).length : Nat)
  · obtain ⟨a, ha, _⟩ := getI_in h1 c
    have c2 : s.pos + 1 ≤ ((s.code.getD []).length : Nat) := by omega
    have := a.toNat_lt
    simp only [c, decide_true, cond_true, ha, obind_sm, c2]
    exact ⟨_, _, rfl, ⟨by simp only; omega, by simp only; omega⟩, by omega, by omega⟩
  · have c2 : ¬ s.pos + 1 ≤ ((s.code.getD []).length : Nat) := by omega
    simp only [c, decide_false, cond_false, c2]
    exact ⟨_, _, rfl, ⟨by simp only; omega, by simp only; omega⟩, b1 _, b2 _⟩

theorem dr_pick {s : l00Src} {k : Int} (h : SK s k) (hk : k ≤ 100000000000) {n : Int} (hn : n ≤ 60000) : ∃ r s', t_spec_l00Src_pick s n = some (r, s') ∧ SK s' (k + 2) ∧ 0 ≤ r ∧ (1 ≤ n → r < n) ∧ (n ≤ 1 → r = 0) := by
  unfold t_spec_l00Src_pick
  by_cases c : n ≤ 1
  · simp only [c, decide_true, cond_true]
    exact ⟨0, _, rfl, ⟨h.lo, by have := h.hi; simp only; omega⟩, by omega, fun _ => by omega, fun _ => rfl⟩
  · obtain ⟨r1, s1, e1, k1, p1, q1⟩ := dr_next h (by omega)
    simp only [c, decide_false, cond_false]
    have e1' : t_spec_l00Src_next ⟨s.code, s.pos, s.seed⟩ = some (r1, s1) := e1
    rw [e1', obind_sm]
    by_cases c2 : 200 < n
    · obtain ⟨r2, s2, e2, k2, p2, q2⟩ := dr_next k1 (by omega)
      have e2' : t_spec_l00Src_next ⟨s1.code, s1.pos, s1.seed⟩ = some (r2, s2) := e2
      have w1 : wr (r1 * 256) = r1 * 256 := wr_id (by omega) (by omega)
      have w2 : wr (r1 * 256 + r2) = r1 * 256 + r2 := wr_id (by omega) (by omega)
      obtain ⟨q, e3, p3, q3⟩ := remI_pos (a := r1 * 256 + r2) (b := n) (by omega) (by omega)
      simp only [c2, decide_true, cond_true, e2', obind_sm, w1, w2, e3]
      exact ⟨_, _, rfl, ⟨k2.lo, by have := k2.hi; simp only; omega⟩, p3, fun _ => q3, fun h => False.elim h⟩
    · obtain ⟨q, e3, p3, q3⟩ := remI_pos (a := r1) (b := n) (by omega) (by omega)
      simp only [c2, decide_false, cond_false, e3, obind_sm]
      exact ⟨_, _, rfl, ⟨k1.lo, by have := k1.hi; simp only; omega⟩, p3, fun _ => q3, fun h => False.elim h⟩

theorem dr_one {s : l00Src} {k : Int} (h : SK s k) (hk : k ≤ 100000000000) {n : Int} (hn : n ≤ 60000) : ∃ b s', t_spec_l00Src_one s n = some (b, s') ∧ SK s' (k + 2) := by
  obtain ⟨r, s', e, k', _⟩ := dr_pick h hk hn
  have e' : t_spec_l00Src_pick ⟨s.code, s.pos, s.seed⟩ n = some (r, s') := e
  unfold t_spec_l00Src_one
  simp only [e', obind_sm]
  exact ⟨_, _, rfl, k'⟩

theorem dr_among {s : l00Src} {k : Int} (h : SK s k) (hk : k ≤ 100000000000) {l : List Int} (h0 : l ≠ []) (hl : l.length ≤ 60000) : ∃ r s', t_spec_l00Src_among s (some l) = some (r, s') ∧ SK s' (k + 2) ∧ r ∈ l := by
  have hp : 0 < l.length := List.length_pos_iff.2 h0
  obtain ⟨r, s', e, k', p, q, _⟩ := dr_pick h hk (n := (l.length : Nat)) (by omega)
  have e' : t_spec_l00Src_pick ⟨s.code, s.pos, s.seed⟩ (l.length : Nat) = some (r, s') := e
  obtain ⟨a, ha, ha2⟩ := getI_in (l := l) p (q (by omega))
  unfold t_spec_l00Src_among
  simp only [Option.getD_some, e', obind_sm, ha]
  exact ⟨_, _, rfl, k', List.mem_of_getElem? ha2⟩

theorem wr_succ {k n : Nat} (h : k < n) (hn : n ≤ 4294967296) : wr ((k : Int) + 1) = ((k + 1 : Nat) : Int) := by
  rw [wr_id (by omega) (by omega)]
  omega

theorem get_lt {A : Type} {l : List A} {k : Nat} {a : A} (h : l[k]? = some a) : k < l.length := (List.getElem?_eq_some_iff.1 h).1

/-- A point that is one; the points of a stroke that is one. -/
structure PtV (p : Point) : Prop where
  x0 : 0 ≤ p.x
  x1 : p.x ≤ 4095
  y0 : 0 ≤ p.y
  y1 : p.y ≤ 4095
  t0 : 0 ≤ p.t
  t1 : p.t ≤ 3600000

structure StV (l : List Point) : Prop where
  pts : ∀ p ∈ l, PtV p
  inc : ∀ (k : Nat) p q, l[k]? = some p → l[k + 1]? = some q → p.t < q.t
  n1 : 1 ≤ l.length
  n2 : l.length ≤ 60

/-- Points of a bounded size. -/
structure PtB (p : Point) : Prop where
  x0 : -10000000 ≤ p.x
  x1 : p.x ≤ 10000000
  y0 : -10000000 ≤ p.y
  y1 : p.y ≤ 10000000
  t0 : -10000000 ≤ p.t
  t1 : p.t ≤ 10000000

structure StB (s : Stroke) : Prop where
  n : (s.points.getD []).length ≤ 100
  pts : ∀ p ∈ s.points.getD [], PtB p

theorem PtV.b {p : Point} (h : PtV p) : PtB p := by
  obtain ⟨h1, h2, h3, h4, h5, h6⟩ := h
  exact ⟨by omega, by omega, by omega, by omega, by omega, by omega⟩

theorem StV.b {l : List Point} (h : StV l) : StB ⟨some l⟩ := ⟨Nat.le_trans h.n2 (by omega), fun p hp => (h.pts p hp).b⟩

theorem appS_cons {A : Type} (s : Sl A) (a : A) (l : List A) : appS s (a :: l) = some (s.getD [] ++ a :: l) := by cases s <;> rfl

theorem appO_one {A : Type} (s : Sl A) (a : A) (h : (s.getD []).length ≤ 1000000) : appO s [a] = some (some (s.getD [] ++ [a])) := by
  rw [appO_some (by simp; omega), appS_cons]

theorem inc_app {l : List Point} {p : Point} (h : ∀ (k : Nat) p q, l[k]? = some p → l[k + 1]? = some q → p.t < q.t) (hp : ∀ q ∈ l, q.t < p.t) : ∀ (k : Nat) a b, (l ++ [p])[k]? = some a → (l ++ [p])[k + 1]? = some b → a.t < b.t := by
  intro k a b h1 h2
  have hk := get_lt h2
  simp only [List.length_append, List.length_cons, List.length_nil] at hk
  rw [List.getElem?_append_left (by omega)] at h1
  by_cases c : k + 1 < l.length
  · rw [List.getElem?_append_left c] at h2
    exact h k a b h1 h2
  · have e : k + 1 = l.length := by omega
    rw [e, List.getElem?_append_right (Nat.le_refl _), Nat.sub_self] at h2
    simp at h2
    subst h2
    exact hp a (List.mem_of_getElem? h1)

theorem cl_4095 (x : Int) : 0 ≤ max (0 : Int) (min 4095 x) ∧ max (0 : Int) (min 4095 x) ≤ 4095 := by omega

/-- What the drawing of a stroke keeps. -/
structure StI (s : Sl Point) (i : Nat) (t0 t : Int) : Prop where
  len : (s.getD []).length = i
  som : 0 < i → ∃ l, s = .some l
  pts : ∀ p ∈ s.getD [], PtV p ∧ t0 ≤ p.t ∧ p.t < t
  inc : ∀ (k : Nat) p q, (s.getD [])[k]? = some p → (s.getD [])[k + 1]? = some q → p.t < q.t

theorem StI.step {s : Sl Point} {i : Nat} {t0 t t' x y : Int} (h : StI s i t0 t) (hx : 0 ≤ x ∧ x ≤ 4095) (hy : 0 ≤ y ∧ y ≤ 4095) (ht : t0 ≤ t) (h0 : 0 ≤ t0) (h1 : t ≤ 3600000) (ht' : t < t') : StI (some (s.getD [] ++ [⟨x, y, t⟩])) (i + 1) t0 t' := by
  refine ⟨by simp [h.len], fun _ => ⟨_, rfl⟩, fun p hp => ?_, inc_app h.inc fun q hq => (h.pts q hq).2.2⟩
  rcases List.mem_append.1 hp with hp | hp
  · have := h.pts p hp
    exact ⟨this.1, this.2.1, by omega⟩
  · simp only [List.mem_singleton] at hp
    subst hp
    exact ⟨⟨hx.1, hx.2, hy.1, hy.2, by simp only; omega, by simp only; omega⟩, ht, ht'⟩

theorem dr_stroke {s : l00Src} {k : Int} (h : SK s k) (hk : k ≤ 1000000000) {time x y : Int} (t0 : 0 ≤ time) (t1 : time ≤ 3000000) (hx : 0 ≤ x ∧ x ≤ 4095) (hy : 0 ≤ y ∧ y ≤ 4095) :
    ∃ l s', t_spec_l02DrawStroke s time x y = some (⟨some l⟩, s') ∧ SK s' (k + 1000) ∧ StV l ∧ l.length ≤ 10 ∧ ∀ p ∈ l, time ≤ p.t ∧ p.t ≤ time + 300 := by
  obtain ⟨r1, s1, e1, k1, p1, q1, _⟩ := dr_pick h (by omega) (n := 60) (by omega)
  obtain ⟨r2, s2, e2, k2, p2, q2, _⟩ := dr_pick k1 (by omega) (n := 60) (by omega)
  obtain ⟨r3, s3, e3, k3, p3, q3, _⟩ := dr_pick k2 (by omega) (n := 10) (by omega)
  have q1' := q1 (by omega)
  have q2' := q2 (by omega)
  have q3' := q3 (by omega)
  have w1 : wr (1 + r3) = 1 + r3 := wr_id (by omega) (by omega)
  have w2 : wr (r1 - 20) = r1 - 20 := wr_id (by omega) (by omega)
  have w3 : wr (r2 - 30) = r2 - 30 := wr_id (by omega) (by omega)
  obtain ⟨N, hN⟩ := Int.eq_ofNat_of_zero_le (a := 1 + r3) (by omega)
  unfold t_spec_l02DrawStroke
  simp only [e1, e2, e3, obind_sm, w1, w2, w3]
  obtain ⟨⟨c1, c2, c3, c4⟩, f1, f2, f3⟩ := loopT_ex (step := s0_spec_l02DrawStroke) (fun i (t : (Sl UInt8) × Int × Int × (Sl Point) × Int × Int × Int × Int × Int × Int) => SK ⟨t.1, t.2.1, t.2.2.1⟩ (k + 6 + 12 * i) ∧ StI t.2.2.2.1 i time t.2.2.2.2.1 ∧ (time ≤ t.2.2.2.2.1 ∧ t.2.2.2.2.1 ≤ time + 20 * i) ∧
      (0 ≤ t.2.2.2.2.2.1 ∧ t.2.2.2.2.2.1 ≤ 4095) ∧ (0 ≤ t.2.2.2.2.2.2.1 ∧ t.2.2.2.2.2.2.1 ≤ 4095) ∧ (-100 ≤ t.2.2.2.2.2.2.2.1 ∧ t.2.2.2.2.2.2.2.1 ≤ 100) ∧ (-100 ≤ t.2.2.2.2.2.2.2.2.1 ∧ t.2.2.2.2.2.2.2.2.1 ≤ 100) ∧ t.2.2.2.2.2.2.2.2.2 = N - (i : Int))
    N (fun r => SK ⟨r.1, r.2.1, r.2.2.1⟩ (k + 6 + 12 * N) ∧ StI r.2.2.2 N time (time + 20 * N + 1))
    (fun i ⟨v1, v2, v3, v4, v5, v6, v7, v8, v9, v10⟩ hi ⟨g1, g2, g3, g4, g5, g6, g7, g8⟩ => by
      simp only at g1 g2 g3 g4 g5 g6 g7 g8
      obtain ⟨r4, s4, e4, k4, p4, q4, _⟩ := dr_pick g1 (by omega) (n := 20) (by omega)
      obtain ⟨r5, s5, e5, k5, p5, q5, _⟩ := dr_pick k4 (by omega) (n := 9) (by omega)
      obtain ⟨r6, s6, e6, k6, p6, q6, _⟩ := dr_pick k5 (by omega) (n := 9) (by omega)
      obtain ⟨b7, s7, e7, k7⟩ := dr_one k6 (by omega) (n := 3) (by omega)
      have q4' := q4 (by omega)
      have q5' := q5 (by omega)
      have q6' := q6 (by omega)
      have a0 := appO_one v4 (⟨v6, v7, v5⟩ : Point) (by rw [g2.len]; omega)
      have a0' : appS v4 [(⟨v6, v7, v5⟩ : Point)] = some (v4.getD [] ++ [⟨v6, v7, v5⟩]) := appS_cons _ _ _
      have a1 : wr (v6 + v8) = v6 + v8 := wr_id (by omega) (by omega)
      have a2 : wr (v6 + v8 + r5) = v6 + v8 + r5 := wr_id (by omega) (by omega)
      have a3 : wr (v6 + v8 + r5 - 4) = v6 + v8 + r5 - 4 := wr_id (by omega) (by omega)
      have a4 : wr (v7 + v9) = v7 + v9 := wr_id (by omega) (by omega)
      have a5 : wr (v7 + v9 + r6) = v7 + v9 + r6 := wr_id (by omega) (by omega)
      have a6 : wr (v7 + v9 + r6 - 4) = v7 + v9 + r6 - 4 := wr_id (by omega) (by omega)
      have a7 : wr (1 + r4) = 1 + r4 := wr_id (by omega) (by omega)
      have a8 : wr (v5 + (1 + r4)) = v5 + (1 + r4) := wr_id (by omega) (by omega)
      have a9 : wr (v10 - 1) = v10 - 1 := wr_id (by omega) (by omega)
      have c : 0 < v10 := by omega
      have st := g2.step (x := v6) (y := v7) (t' := v5 + (1 + r4)) g4 g5 (by omega) (by omega) (by omega) (by omega)
      cases b7 with
      | true =>
        obtain ⟨r8, s8, e8, k8, p8, q8, _⟩ := dr_pick k7 (by omega) (n := 80) (by omega)
        obtain ⟨r9, s9, e9, k9, p9, q9, _⟩ := dr_pick k8 (by omega) (n := 80) (by omega)
        have q8' := q8 (by omega)
        have q9' := q9 (by omega)
        have b1 : wr (r8 - 40) = r8 - 40 := wr_id (by omega) (by omega)
        have b2 : wr (r9 - 40) = r9 - 40 := wr_id (by omega) (by omega)
        have e : s0_spec_l02DrawStroke (v1, v2, v3, v4, v5, v6, v7, v8, v9, v10) = some (.inl (s9.code, s9.pos, s9.seed, some (v4.getD [] ++ [⟨v6, v7, v5⟩]), v5 + (1 + r4), max 0 (min 4095 (v6 + v8 + r5 - 4)), max 0 (min 4095 (v7 + v9 + r6 - 4)), r8 - 40, r9 - 40, v10 - 1)) := by
          unfold s0_spec_l02DrawStroke
          simp only [c, decide_true, cond_true, e4, e5, e6, e7, e8, e9, obind_sm, a0, a0', a1, a2, a3, a4, a5, a6, a7, a8, a9, b1, b2]
        exact .inl ⟨_, e, k9.mono (by omega), st, ⟨by simp only; omega, by simp only; omega⟩, cl_4095 _, cl_4095 _, ⟨by simp only; omega, by simp only; omega⟩, ⟨by simp only; omega, by simp only; omega⟩, by simp only; omega⟩
      | false =>
        have e : s0_spec_l02DrawStroke (v1, v2, v3, v4, v5, v6, v7, v8, v9, v10) = some (.inl (s7.code, s7.pos, s7.seed, some (v4.getD [] ++ [⟨v6, v7, v5⟩]), v5 + (1 + r4), max 0 (min 4095 (v6 + v8 + r5 - 4)), max 0 (min 4095 (v7 + v9 + r6 - 4)), v8, v9, v10 - 1)) := by
          unfold s0_spec_l02DrawStroke
          simp only [c, decide_true, cond_true, cond_false, e4, e5, e6, e7, obind_sm, a0, a0', a1, a2, a3, a4, a5, a6, a7, a8, a9]
        exact .inl ⟨_, e, k7.mono (by omega), st, ⟨by simp only; omega, by simp only; omega⟩, cl_4095 _, cl_4095 _, g6, g7, by simp only; omega⟩)
    (fun ⟨v1, v2, v3, v4, v5, v6, v7, v8, v9, v10⟩ ⟨g1, g2, g3, g4, g5, g6, g7, g8⟩ => by
      simp only at g1 g2 g3 g8
      have c : ¬ 0 < v10 := by omega
      have e : s0_spec_l02DrawStroke (v1, v2, v3, v4, v5, v6, v7, v8, v9, v10) = some (.inr (v1, v2, v3, v4)) := by
        unfold s0_spec_l02DrawStroke
        simp only [c, decide_false, cond_false]
      refine ⟨_, e, g1, g2.len, g2.som, fun p hp => ?_, g2.inc⟩
      have := g2.pts p hp
      exact ⟨this.1, this.2.1, by omega⟩)
    (s := (s3.code, s3.pos, s3.seed, none, time, x, y, r1 - 20, r2 - 30, 1 + r3)) ⟨k3.mono (by omega), ⟨rfl, fun h => by omega, fun p hp => (by cases hp), fun k p q h1 _ => (by simp at h1)⟩, ⟨by simp only; omega, by simp only; omega⟩, hx, hy, ⟨by simp only; omega, by simp only; omega⟩, ⟨by simp only; omega, by simp only; omega⟩, by simp only; omega⟩
  simp only at f2 f3
  obtain ⟨l, rfl⟩ := f3.som (by omega)
  have hl : l.length = N := f3.len
  rw [f1]
  refine ⟨l, _, rfl, f2.mono (by omega), ⟨fun p hp => (f3.pts p hp).1, f3.inc, by omega, by omega⟩, by omega, fun p hp => ?_⟩
  have := f3.pts p hp
  omega

theorem last_ok {l : List Point} (h : StV l) : ∃ p, t_spec_l02Last ⟨some l⟩ = some p.t ∧ l[l.length - 1]? = some p ∧ p ∈ l ∧ ∀ q ∈ l, q.t ≤ p.t := by
  have h1 := h.n1
  have h2 := h.n2
  obtain ⟨p, hp⟩ : ∃ p, l[l.length - 1]? = some p := ⟨l[l.length - 1], List.getElem?_eq_getElem (by omega)⟩
  have w : wr (((l.length : Nat) : Int) - 1) = ((l.length - 1 : Nat) : Int) := by rw [wr_id (by omega) (by omega)]; omega
  refine ⟨p, ?_, hp, List.mem_of_getElem? hp, fun q hq => ?_⟩
  · unfold t_spec_l02Last
    simp only [Option.getD_some, w, getI_nat hp, obind_sm]
  · obtain ⟨k, hk⟩ := List.mem_iff_getElem?.1 hq
    have key : ∀ (d k : Nat) (a b : Point), l[k]? = some a → l[k + d]? = some b → a.t ≤ b.t := by
      intro d
      induction d with
      | zero => intro k a b h1 h2; rw [Nat.add_zero, h1] at h2; cases h2; exact Int.le_refl _
      | succ d ih =>
        intro k a b h1 h2
        have hlt := get_lt h2
        obtain ⟨m, hm⟩ : ∃ m, l[k + d]? = some m := ⟨l[k + d], List.getElem?_eq_getElem (by omega)⟩
        have := ih k a m h1 hm
        have := h.inc (k + d) m b hm (by rw [Nat.add_assoc]; exact h2)
        omega
    have hk2 := get_lt hk
    exact key (l.length - 1 - k) k q p hk (by rw [← hp]; congr 1; omega)

/-- Ink that is one. -/
structure InkV (L : List Stroke) : Prop where
  st : ∀ s ∈ L, ∃ l, s = ⟨some l⟩ ∧ StV l
  inc : ∀ (k : Nat) l l', L[k]? = some ⟨some l⟩ → L[k + 1]? = some ⟨some l'⟩ → ∀ p ∈ l, ∀ q ∈ l', p.t < q.t
  n : L.length ≤ 16

/-- What the drawing of ink keeps. -/
structure InkI (s : Sl Stroke) (i : Nat) (t : Int) : Prop where
  len : (s.getD []).length = i
  som : 0 < i → ∃ l, s = .some l
  st : ∀ x ∈ s.getD [], ∃ l, x = ⟨some l⟩ ∧ StV l ∧ ∀ p ∈ l, p.t < t
  inc : ∀ (k : Nat) l l', (s.getD [])[k]? = some ⟨some l⟩ → (s.getD [])[k + 1]? = some ⟨some l'⟩ → ∀ p ∈ l, ∀ q ∈ l', p.t < q.t

theorem InkI.step {s : Sl Stroke} {i : Nat} {t t' : Int} {l : List Point} (h : InkI s i t) (hl : StV l) (h0 : ∀ p ∈ l, t ≤ p.t ∧ p.t < t') (ht : t ≤ t') : InkI (some (s.getD [] ++ [⟨some l⟩])) (i + 1) t' := by
  refine ⟨by simp [h.len], fun _ => ⟨_, rfl⟩, fun x hx => ?_, ?_⟩
  · rcases List.mem_append.1 hx with hx | hx
    · obtain ⟨l', e, h1, h2⟩ := h.st x hx
      exact ⟨l', e, h1, fun p hp => Int.lt_of_lt_of_le (h2 p hp) ht⟩
    · simp only [List.mem_singleton] at hx
      exact ⟨l, hx, hl, fun p hp => (h0 p hp).2⟩
  · intro k a b h1 h2
    simp only [Option.getD_some] at h1 h2
    have hk := get_lt h2
    simp only [List.length_append, List.length_cons, List.length_nil] at hk
    rw [List.getElem?_append_left (by omega)] at h1
    by_cases c : k + 1 < (s.getD []).length
    · rw [List.getElem?_append_left c] at h2
      exact h.inc k a b h1 h2
    · have e : k + 1 = (s.getD []).length := by omega
      rw [e, List.getElem?_append_right (Nat.le_refl _), Nat.sub_self] at h2
      simp only [List.getElem?_cons_zero, Option.some.injEq, Stroke.mk.injEq] at h2
      subst h2
      intro p hp q hq
      obtain ⟨l', e', _, h3⟩ := h.st _ (List.mem_of_getElem? h1)
      simp only [Stroke.mk.injEq, Option.some.injEq] at e'
      subst e'
      exact Int.lt_of_lt_of_le (h3 p hp) (h0 q hq).1

theorem dr_ink {s : l00Src} {k : Int} (h : SK s k) (hk : k ≤ 100000000) {most : Int} (h1 : 0 ≤ most) (h2 : most ≤ 10) : ∃ L s', t_spec_l02Draw s most = some (⟨L⟩, s') ∧ SK s' (k + 20000) ∧ InkV (L.getD []) ∧ (L.getD []).length ≤ most := by
  obtain ⟨r1, s1, e1, k1, p1, q1, _⟩ := dr_pick h (by omega) (n := 100) (by omega)
  obtain ⟨r2, s2, e2, k2, p2, q2, _⟩ := dr_pick k1 (by omega) (n := 200) (by omega)
  obtain ⟨r3, s3, e3, k3, p3, q3, _⟩ := dr_pick k2 (by omega) (n := most + 1) (by omega)
  have q1' := q1 (by omega)
  have q2' := q2 (by omega)
  have q3' := q3 (by omega)
  have w0 : wr (most + 1) = most + 1 := wr_id (by omega) (by omega)
  have w1 : wr (100 + r2) = 100 + r2 := wr_id (by omega) (by omega)
  obtain ⟨N, hN⟩ := Int.eq_ofNat_of_zero_le (a := r3) (by omega)
  unfold t_spec_l02Draw
  simp only [e1, e2, w0, e3, obind_sm, w1]
  obtain ⟨⟨c1, c2, c3, c4⟩, f1, f2, f3⟩ := loopT_ex (step := s0_spec_l02Draw) (fun i (t : (Sl UInt8) × Int × Int × (Sl Stroke) × Int × Int × Int) => SK ⟨t.1, t.2.1, t.2.2.1⟩ (k + 6 + 1100 * i) ∧ InkI t.2.2.2.1 i t.2.2.2.2.1 ∧ (0 ≤ t.2.2.2.2.1 ∧ t.2.2.2.2.1 ≤ 100 + 600 * i) ∧
      (0 ≤ t.2.2.2.2.2.1 ∧ t.2.2.2.2.2.1 ≤ 300 + 200 * i) ∧ t.2.2.2.2.2.2 = N - (i : Int))
    N (fun r => SK ⟨r.1, r.2.1, r.2.2.1⟩ (k + 6 + 1100 * N) ∧ ∃ t, InkI r.2.2.2 N t)
    (fun i ⟨v1, v2, v3, v4, v5, v6, v7⟩ hi ⟨g1, g2, g3, g4, g5⟩ => by
      simp only at g1 g2 g3 g4 g5
      obtain ⟨r4, s4, e4, k4, p4, q4, _⟩ := dr_pick g1 (by omega) (n := 200) (by omega)
      have q4' := q4 (by omega)
      have a1 : wr (300 + r4) = 300 + r4 := wr_id (by omega) (by omega)
      obtain ⟨l, s5, e5, k5, sv, _, st⟩ := dr_stroke k4 (by omega) (time := v5) (x := v6) (y := 300 + r4) (by omega) (by omega) (by omega) (by omega)
      obtain ⟨p, e6, _, pm, pl⟩ := last_ok sv
      obtain ⟨r7, s7, e7, k7, p7, q7, _⟩ := dr_pick k5 (by omega) (n := 200) (by omega)
      obtain ⟨r8, s8, e8, k8, p8, q8, _⟩ := dr_pick k7 (by omega) (n := 200) (by omega)
      have q7' := q7 (by omega)
      have q8' := q8 (by omega)
      have pt := st p pm
      have a0 := appO_one v4 (⟨some l⟩ : Stroke) (by rw [g2.len]; omega)
      have a0' : appS v4 [(⟨some l⟩ : Stroke)] = some (v4.getD [] ++ [⟨some l⟩]) := appS_cons _ _ _
      have a2 : wr (p.t + 1) = p.t + 1 := wr_id (by omega) (by omega)
      have a3 : wr (p.t + 1 + r7) = p.t + 1 + r7 := wr_id (by omega) (by omega)
      have a4 : wr (v6 + r8) = v6 + r8 := wr_id (by omega) (by omega)
      have a5 : wr (v7 - 1) = v7 - 1 := wr_id (by omega) (by omega)
      have c : 0 < v7 := by omega
      have e : s0_spec_l02Draw (v1, v2, v3, v4, v5, v6, v7) = some (.inl (s8.code, s8.pos, s8.seed, some (v4.getD [] ++ [⟨some l⟩]), p.t + 1 + r7, v6 + r8, v7 - 1)) := by
        unfold s0_spec_l02Draw
        simp only [c, decide_true, cond_true, e4, a1, e5, e6, e7, e8, obind_sm, a0, a0', a2, a3, a4, a5]
      have nx := g2.step (t' := p.t + 1 + r7) sv (fun q hq => ⟨(st q hq).1, by have := pl q hq; omega⟩) (by omega)
      exact .inl ⟨_, e, k8.mono (by omega), nx, ⟨by simp only; omega, by simp only; omega⟩, ⟨by simp only; omega, by simp only; omega⟩, by simp only; omega⟩)
    (fun ⟨v1, v2, v3, v4, v5, v6, v7⟩ ⟨g1, g2, g3, g4, g5⟩ => by
      simp only at g1 g2 g5
      have c : ¬ 0 < v7 := by omega
      have e : s0_spec_l02Draw (v1, v2, v3, v4, v5, v6, v7) = some (.inr (v1, v2, v3, v4)) := by
        unfold s0_spec_l02Draw
        simp only [c, decide_false, cond_false]
      exact ⟨_, e, g1, v5, g2⟩)
    (s := (s3.code, s3.pos, s3.seed, none, r1, 100 + r2, r3)) ⟨k3.mono (by omega), ⟨rfl, fun h => by omega, fun p hp => (by cases hp), fun k p q h1 _ => (by simp at h1)⟩, ⟨by simp only; omega, by simp only; omega⟩, ⟨by simp only; omega, by simp only; omega⟩, by simp only; omega⟩
  simp only at f2 f3
  obtain ⟨t, f3⟩ := f3
  rw [f1]
  refine ⟨c4, _, rfl, f2.mono (by omega), ⟨fun x hx => ?_, f3.inc, by rw [f3.len]; omega⟩, by rw [f3.len]; omega⟩
  obtain ⟨l, e, h1, _⟩ := f3.st x hx
  exact ⟨l, e, h1⟩

theorem dr_long {n : Int} (h0 : 0 ≤ n) (h1 : n ≤ 100) : ∃ s, t_spec_l02Long n = some s ∧ StB s := by
  obtain ⟨N, rfl⟩ := Int.eq_ofNat_of_zero_le h0
  obtain ⟨r, f1, f2, f3⟩ := loopT_ex (step := s0_spec_l02Long N) (fun i (t : (Sl Point) × Int) => (t.1.getD []).length = i ∧ (∀ p ∈ t.1.getD [], PtB p) ∧ t.2 = (i : Int)) N (fun r => (r.getD []).length = N ∧ ∀ p ∈ r.getD [], PtB p)
    (fun i ⟨v1, v2⟩ hi ⟨g1, g2, g3⟩ => by
      simp only at g1 g2 g3
      subst g3
      have c : (i : Int) < (N : Int) := by omega
      have dv : 0 ≤ Int.tdiv (i : Int) 2 ∧ Int.tdiv (i : Int) 2 ≤ i := by rw [Int.tdiv_eq_ediv_of_nonneg (by omega)]; omega
      have w1 : wr (10 + (i : Int)) = 10 + i := wr_id (by omega) (by omega)
      have w2 : wr (Int.tdiv (i : Int) 2) = Int.tdiv (i : Int) 2 := wr_id (by omega) (by omega)
      have w3 : wr (50 - Int.tdiv (i : Int) 2) = 50 - Int.tdiv (i : Int) 2 := wr_id (by omega) (by omega)
      have w4 : wr (3 * (i : Int)) = 3 * i := wr_id (by omega) (by omega)
      have a0 := appO_one v1 (⟨10 + (i : Int), 50 - Int.tdiv (i : Int) 2, 3 * (i : Int)⟩ : Point) (by omega)
      have a0' : appS v1 [(⟨10 + (i : Int), 50 - Int.tdiv (i : Int) 2, 3 * (i : Int)⟩ : Point)] = some (v1.getD [] ++ [⟨10 + (i : Int), 50 - Int.tdiv (i : Int) 2, 3 * (i : Int)⟩]) := appS_cons _ _ _
      refine .inl ⟨(some (v1.getD [] ++ [⟨10 + (i : Int), 50 - Int.tdiv (i : Int) 2, 3 * (i : Int)⟩]), ((i + 1 : Nat) : Int)), ?_, by simp [g1], fun p hp => ?_, rfl⟩
      · unfold s0_spec_l02Long
        simp only [c, decide_true, cond_true, w1, w2, w3, w4, a0, a0', obind_sm, wr_succ hi (by omega)]
      · rcases List.mem_append.1 hp with hp | hp
        · exact g2 p hp
        · simp only [List.mem_singleton] at hp
          subst hp
          exact ⟨by simp only; omega, by simp only; omega, by simp only; omega, by simp only; omega, by simp only; omega, by simp only; omega⟩)
    (fun ⟨v1, v2⟩ ⟨g1, g2, g3⟩ => by
      simp only at g1 g2 g3
      subst g3
      refine ⟨v1, ?_, g1, g2⟩
      unfold s0_spec_l02Long
      simp only [Int.lt_irrefl, decide_false, cond_false])
    (s := (none, 0)) ⟨rfl, fun p hp => (by cases hp), rfl⟩
  refine ⟨⟨r⟩, ?_, by simp only; omega, f3⟩
  unfold t_spec_l02Long
  simp only [f1, obind_sm]

theorem InkV.b {L : List Stroke} (h : InkV L) : ∀ x ∈ L, StB x := fun x hx => by
  obtain ⟨l, rfl, hl⟩ := h.st x hx
  exact hl.b

theorem set_st {L : List Stroke} {k : Int} {l : List Point} {q : Point} (h : ∀ x ∈ L, StB x) (hl : StB ⟨some l⟩) (hq : PtB q) : ∀ x ∈ (setS (some L) k (⟨setS (some l) 0 q⟩ : Stroke)).getD [], StB x := by
  intro x hx
  simp only [setS, Option.map_some, Option.getD_some] at hx
  rcases List.mem_or_eq_of_mem_set hx with hx | rfl
  · exact h x hx
  · refine ⟨by simpa using hl.n, fun p hp => ?_⟩
    simp only [Option.getD_some] at hp
    rcases List.mem_or_eq_of_mem_set hp with hp | rfl
    · exact hl.pts p (by simpa using hp)
    · exact hq

theorem dr_bent {s : l00Src} {k : Int} (h : SK s k) (hk : k ≤ 10000000) : ∃ L s', t_spec_l02Bent s = some (⟨L⟩, s') ∧ SK s' (k + 30000) ∧ (L.getD []).length ≤ 100 ∧ ∀ x ∈ L.getD [], StB x := by
  obtain ⟨L, s1, e1, k1, iv, il⟩ := dr_ink h (by omega) (most := 5) (by omega) (by omega)
  obtain ⟨r2, s2, e2, k2, p2, q2, _⟩ := dr_pick k1 (by omega) (n := 20) (by omega)
  have q2' := q2 (by omega)
  have ib := iv.b
  have first : 0 < (((L.getD []).length : Nat) : Int) → ∀ r : Int, 0 ≤ r → r < (((L.getD []).length : Nat) : Int) → ∃ L' l p, L = some L' ∧ getI (L.getD []) r = some ⟨some l⟩ ∧ getI l 0 = some p ∧ StV l := fun h0 r hr0 hr1 => by
    obtain ⟨x, hx, hx2⟩ := getI_in hr0 hr1
    obtain ⟨l, rfl, hl⟩ := iv.st x (List.mem_of_getElem? hx2)
    obtain ⟨p, hp, _⟩ := getI_in (l := l) (i := 0) (by omega) (by have := hl.n1; omega)
    cases L with
    | none => simp at h0
    | some L' => exact ⟨L', l, p, rfl, hx, hp, hl⟩
  unfold t_spec_l02Bent
  simp only [e1, e2, obind_sm]
  by_cases c0 : r2 = 0
  · have d0 : decide (r2 = 0) = true := decide_eq_true c0
    have a0 := appO_one L (⟨none⟩ : Stroke) (by omega)
    have a0' : appS L [(⟨none⟩ : Stroke)] = some (L.getD [] ++ [⟨none⟩]) := appS_cons _ _ _
    simp only [d0, cond_true, a0, a0', obind_sm]
    refine ⟨_, _, rfl, k2.mono (by omega), by simp; omega, fun x hx => ?_⟩
    rcases List.mem_append.1 hx with hx | hx
    · exact ib x hx
    · simp only [List.mem_singleton] at hx
      subst hx
      exact ⟨by simp, fun p hp => by cases hp⟩
  have d0 : decide (r2 = 0) = false := decide_eq_false c0
  by_cases c1 : r2 = 1
  · have d1 : decide (r2 = 1) = true := decide_eq_true c1
    by_cases n0 : 0 < (((L.getD []).length : Nat) : Int)
    · obtain ⟨r3, s3, e3, k3, p3, q3, _⟩ := dr_pick k2 (by omega) (n := (((L.getD []).length : Nat) : Int)) (by omega)
      have q3' := q3 (by omega)
      obtain ⟨L', l, p, rfl, g1, g2, hl⟩ := first n0 r3 p3 q3'
      simp only [Option.getD_some] at n0 e3 g1 ib
      obtain ⟨r4, s4, e4, k4, m4⟩ := dr_among k3 (by omega) (l := [-1, 4095, 4096]) (by simp) (by simp)
      simp only [d0, d1, decide_true, decide_false, cond_true, cond_false, n0, e3, obind_sm, g1, Option.getD_some, g2, e4]
      have pb := (hl.pts p (List.mem_of_getElem? (getI_iff.1 g2).2)).b
      refine ⟨_, _, rfl, k4.mono (by omega), by simp only [setS, Option.map_some, Option.getD_some, List.length_set] at il ⊢; omega, set_st ib hl.b ⟨?_, ?_, pb.y0, pb.y1, pb.t0, pb.t1⟩⟩
      all_goals
        simp only [List.mem_cons, List.not_mem_nil, or_false] at m4
        simp only
        omega
    · simp only [d0, d1, decide_true, decide_false, cond_true, cond_false, n0]
      exact ⟨_, _, rfl, k2.mono (by omega), by omega, ib⟩
  have d1 : decide (r2 = 1) = false := decide_eq_false c1
  by_cases c2 : r2 = 2
  · have d2 : decide (r2 = 2) = true := decide_eq_true c2
    by_cases n0 : 0 < (((L.getD []).length : Nat) : Int)
    · obtain ⟨r3, s3, e3, k3, p3, q3, _⟩ := dr_pick k2 (by omega) (n := (((L.getD []).length : Nat) : Int)) (by omega)
      have q3' := q3 (by omega)
      obtain ⟨L', l, p, rfl, g1, g2, hl⟩ := first n0 r3 p3 q3'
      simp only [Option.getD_some] at n0 e3 g1 ib
      obtain ⟨r4, s4, e4, k4, m4⟩ := dr_among k3 (by omega) (l := [-1, 0, 3600000, 3600001]) (by simp) (by simp)
      simp only [d0, d1, d2, decide_true, decide_false, cond_true, cond_false, n0, e3, obind_sm, g1, Option.getD_some, g2, e4]
      have pb := (hl.pts p (List.mem_of_getElem? (getI_iff.1 g2).2)).b
      refine ⟨_, _, rfl, k4.mono (by omega), by simp only [setS, Option.map_some, Option.getD_some, List.length_set] at il ⊢; omega, set_st ib hl.b ⟨pb.x0, pb.x1, pb.y0, pb.y1, ?_, ?_⟩⟩
      all_goals
        simp only [List.mem_cons, List.not_mem_nil, or_false] at m4
        simp only
        omega
    · simp only [d0, d1, d2, decide_true, decide_false, cond_true, cond_false, n0]
      exact ⟨_, _, rfl, k2.mono (by omega), by omega, ib⟩
  have d2 : decide (r2 = 2) = false := decide_eq_false c2
  by_cases c3 : r2 = 3
  · have d3 : decide (r2 = 3) = true := decide_eq_true c3
    obtain ⟨r3, s3, e3, k3, p3, q3, _⟩ := dr_pick k2 (by omega) (n := 2) (by omega)
    have q3' := q3 (by omega)
    have w : wr (60 + r3) = 60 + r3 := wr_id (by omega) (by omega)
    obtain ⟨x, e4, hx⟩ := dr_long (n := 60 + r3) (by omega) (by omega)
    simp only [d0, d1, d2, d3, decide_true, decide_false, cond_true, cond_false, e3, w, e4, obind_sm]
    refine ⟨_, _, rfl, k3.mono (by omega), by simp, fun y hy => ?_⟩
    simp only [Option.getD_some, List.mem_singleton] at hy
    subst hy
    exact hx
  have d3 : decide (r2 = 3) = false := decide_eq_false c3
  by_cases c4 : r2 = 4
  · have d4 : decide (r2 = 4) = true := decide_eq_true c4
    obtain ⟨r3, s3, e3, k3, p3, q3, _⟩ := dr_pick k2 (by omega) (n := 2) (by omega)
    have q3' := q3 (by omega)
    have w : wr (16 + r3) = 16 + r3 := wr_id (by omega) (by omega)
    obtain ⟨N, hN⟩ := Int.eq_ofNat_of_zero_le (a := 16 + r3) (by omega)
    obtain ⟨r, f1, f2, f3⟩ := loopT_ex (step := s0_spec_l02Bent (r3, s3)) (fun i (t : (Sl Stroke) × Int) => (t.1.getD []).length = i ∧ (∀ p ∈ t.1.getD [], StB p) ∧ t.2 = (i : Int)) N (fun r => (r.getD []).length = N ∧ ∀ p ∈ r.getD [], StB p)
      (fun i ⟨v1, v2⟩ hi ⟨g1, g2, g3⟩ => by
        simp only at g1 g2 g3
        subst g3
        have c : (i : Int) < 16 + r3 := by omega
        have a0 := appO_one v1 (⟨some [⟨(i : Int), 5, (i : Int)⟩]⟩ : Stroke) (by omega)
        have a0' : appS v1 [(⟨some [⟨(i : Int), 5, (i : Int)⟩]⟩ : Stroke)] = some (v1.getD [] ++ [⟨some [⟨(i : Int), 5, (i : Int)⟩]⟩]) := appS_cons _ _ _
        refine .inl ⟨(some (v1.getD [] ++ [⟨some [⟨(i : Int), 5, (i : Int)⟩]⟩]), ((i + 1 : Nat) : Int)), ?_, by simp [g1], fun p hp => ?_, rfl⟩
        · unfold s0_spec_l02Bent
          simp only [w, c, decide_true, cond_true, a0, a0', obind_sm, wr_succ hi (by omega)]
        · rcases List.mem_append.1 hp with hp | hp
          · exact g2 p hp
          · simp only [List.mem_singleton] at hp
            subst hp
            refine ⟨by simp, fun q hq => ?_⟩
            simp only [Option.getD_some, List.mem_singleton] at hq
            subst hq
            exact ⟨by simp only; omega, by simp only; omega, by simp only; omega, by simp only; omega, by simp only; omega, by simp only; omega⟩)
      (fun ⟨v1, v2⟩ ⟨g1, g2, g3⟩ => by
        simp only at g1 g2 g3
        subst g3
        have c : ¬ (N : Int) < 16 + r3 := by omega
        refine ⟨v1, ?_, g1, g2⟩
        unfold s0_spec_l02Bent
        simp only [w, c, decide_false, cond_false])
      (s := (none, 0)) ⟨rfl, fun p hp => (by cases hp), rfl⟩
    simp only [d0, d1, d2, d3, d4, decide_true, decide_false, cond_true, cond_false, e3, f1, obind_sm]
    exact ⟨_, _, rfl, k3.mono (by omega), by omega, f3⟩
  · have d4 : decide (r2 = 4) = false := decide_eq_false c4
    simp only [d0, d1, d2, d3, d4, cond_false]
    exact ⟨_, _, rfl, k2.mono (by omega), by omega, ib⟩

theorem dr_l05 {s : l00Src} {k : Int} (h : SK s k) (hk : k ≤ 1000000) : ∃ st s', t_spec_l05Stroke s = some (st, s') ∧ SK s' (k + 40000) ∧ StB st := by
  obtain ⟨b1, s1, e1, k1⟩ := dr_one h (by omega) (n := 12) (by omega)
  unfold t_spec_l05Stroke
  simp only [e1, obind_sm]
  cases b1 with
  | true =>
    obtain ⟨L, s2, e2, k2, ll, lb⟩ := dr_bent k1 (by omega)
    simp only [cond_true, e2, obind_sm]
    by_cases n0 : 0 < (((L.getD []).length : Nat) : Int)
    · obtain ⟨x, g1, g2⟩ := getI_in (l := L.getD []) (i := 0) (by omega) (by omega)
      simp only [n0, decide_true, cond_true, g1, obind_sm]
      exact ⟨_, _, rfl, k2.mono (by omega), lb _ (List.mem_of_getElem? g2)⟩
    · simp only [n0, decide_false, cond_false]
      exact ⟨_, _, rfl, k2.mono (by omega), by simp, fun p hp => by cases hp⟩
  | false =>
    obtain ⟨b2, s2, e2, k2⟩ := dr_one k1 (by omega) (n := 2) (by omega)
    simp only [cond_false, e2, obind_sm]
    cases b2 with
    | true =>
      obtain ⟨r3, s3, e3, k3, p3, q3, _⟩ := dr_pick k2 (by omega) (n := 60) (by omega)
      obtain ⟨r4, s4, e4, k4, p4, q4, _⟩ := dr_pick k3 (by omega) (n := 60) (by omega)
      have q3' := q3 (by omega)
      have q4' := q4 (by omega)
      have w1 : wr (300 + r3) = 300 + r3 := wr_id (by omega) (by omega)
      have w2 : wr (300 + r4) = 300 + r4 := wr_id (by omega) (by omega)
      obtain ⟨l, s5, e5, k5, sv, _, _⟩ := dr_stroke k4 (by omega) (time := 5) (x := 300 + r3) (y := 300 + r4) (by omega) (by omega) (by omega) (by omega)
      simp only [cond_true, e3, e4, w1, w2, e5, obind_sm]
      exact ⟨_, _, rfl, k5.mono (by omega), sv.b⟩
    | false =>
      obtain ⟨r3, s3, e3, k3, p3, q3, _⟩ := dr_pick k2 (by omega) (n := 7) (by omega)
      have q3' := q3 (by omega)
      have w1 : wr (1 + r3) = 1 + r3 := wr_id (by omega) (by omega)
      obtain ⟨N, hN⟩ := Int.eq_ofNat_of_zero_le (a := 1 + r3) (by omega)
      obtain ⟨⟨c1, c2, c3, c4⟩, f1, f2, f3, f4⟩ := loopT_ex (step := s0_spec_l05Stroke) (fun i (t : (Sl UInt8) × Int × Int × (Sl Point) × Int) => SK ⟨t.1, t.2.1, t.2.2.1⟩ (k + 6 + 4 * i) ∧ (t.2.2.2.1.getD []).length = i ∧ (∀ p ∈ t.2.2.2.1.getD [], PtB p) ∧ t.2.2.2.2 = N - (i : Int))
        N (fun r => SK ⟨r.1, r.2.1, r.2.2.1⟩ (k + 6 + 4 * N) ∧ (r.2.2.2.getD []).length = N ∧ ∀ p ∈ r.2.2.2.getD [], PtB p)
        (fun i ⟨v1, v2, v3, v4, v5⟩ hi ⟨g1, g2, g3, g4⟩ => by
          simp only at g1 g2 g3 g4
          obtain ⟨r4, s4, e4, k4, p4, q4, _⟩ := dr_pick g1 (by omega) (n := 9) (by omega)
          obtain ⟨r5, s5, e5, k5, p5, q5, _⟩ := dr_pick k4 (by omega) (n := 9) (by omega)
          have q4' := q4 (by omega)
          have q5' := q5 (by omega)
          have a0 := appO_one v4 (⟨r4, r5, (((v4.getD []).length : Nat) : Int)⟩ : Point) (by omega)
          have a0' : appS v4 [(⟨r4, r5, (((v4.getD []).length : Nat) : Int)⟩ : Point)] = some (v4.getD [] ++ [⟨r4, r5, (((v4.getD []).length : Nat) : Int)⟩]) := appS_cons _ _ _
          have a5 : wr (v5 - 1) = v5 - 1 := wr_id (by omega) (by omega)
          have c : 0 < v5 := by omega
          have e : s0_spec_l05Stroke (v1, v2, v3, v4, v5) = some (.inl (s5.code, s5.pos, s5.seed, some (v4.getD [] ++ [⟨r4, r5, (((v4.getD []).length : Nat) : Int)⟩]), v5 - 1)) := by
            unfold s0_spec_l05Stroke
            simp only [c, decide_true, cond_true, e4, e5, obind_sm, a0, a0', a5]
          refine .inl ⟨_, e, k5.mono (by omega), by simp [g2], fun p hp => ?_, by simp only; omega⟩
          rcases List.mem_append.1 hp with hp | hp
          · exact g3 p hp
          · simp only [List.mem_singleton] at hp
            subst hp
            exact ⟨by simp only; omega, by simp only; omega, by simp only; omega, by simp only; omega, by simp only; omega, by simp only; omega⟩)
        (fun ⟨v1, v2, v3, v4, v5⟩ ⟨g1, g2, g3, g4⟩ => by
          simp only at g1 g2 g3 g4
          have c : ¬ 0 < v5 := by omega
          have e : s0_spec_l05Stroke (v1, v2, v3, v4, v5) = some (.inr (v1, v2, v3, v4)) := by
            unfold s0_spec_l05Stroke
            simp only [c, decide_false, cond_false]
          exact ⟨_, e, g1, g2, g3⟩)
        (s := (s3.code, s3.pos, s3.seed, none, 1 + r3)) ⟨k3.mono (by omega), rfl, fun p hp => (by cases hp), by simp only; omega⟩
      simp only at f2 f3 f4
      simp only [cond_false, e3, w1, obind_sm]
      rw [f1]
      exact ⟨_, _, rfl, f2.mono (by omega), by simp only; omega, f4⟩

def vP (p : Point) : Bool := within p.x 0 4095 && within p.y 0 4095 && within p.t 0 3600000

def fV (l : List Point) (k : Nat) (a : Point) : Option Bool := bif (!vP a || (decide (0 < k) && decide (a.t ≤ (l.getD (k - 1) ⟨0, 0, 0⟩).t))) then some false else none

/-- The points are those of a stroke that is one. -/
def vS (l : List Point) : Bool := match firstL (fV l) l 0 with
  | none => decide (1 ≤ l.length) && decide (l.length ≤ 60)
  | some r => r

theorem validPoint_vP (p : Point) : t_impl_validPoint p = some (vP p) := by
  unfold t_impl_validPoint vP
  simp only [obind_sm]
  cases within p.x 0 4095 <;> cases within p.y 0 4095 <;> cases within p.t 0 3600000 <;> rfl

theorem l02Point_vP (p : Point) : t_spec_l02Point p = some (vP p) := by
  unfold t_spec_l02Point vP
  simp only [obind_sm]
  cases within p.x 0 4095 <;> cases within p.y 0 4095 <;> cases within p.t 0 3600000 <;> rfl

theorem vP_iff {p : Point} : vP p = true ↔ PtV p := by
  unfold vP within
  simp only [Bool.and_eq_true, decide_eq_true_eq]
  constructor
  · rintro ⟨⟨⟨h1, h2⟩, h3, h4⟩, h5, h6⟩
    exact ⟨h1, h2, h3, h4, h5, h6⟩
  · rintro ⟨h1, h2, h3, h4, h5, h6⟩
    exact ⟨⟨⟨h1, h2⟩, h3, h4⟩, h5, h6⟩

theorem prev_get {A : Type} {l : List A} {k : Nat} {d : A} (hk : k < l.length) (h0 : 0 < k) (hl : l.length ≤ 4294967296) : getI l (wr ((k : Int) - 1)) = some (l.getD (k - 1) d) := by
  have w : wr ((k : Int) - 1) = ((k - 1 : Nat) : Int) := by rw [wr_id (by omega) (by omega)]; omega
  rw [w]
  apply getI_nat
  rw [List.getD_eq_getElem?_getD, List.getElem?_eq_getElem (by omega)]
  rfl

theorem validStroke_vS (s : Stroke) (hl : (s.points.getD []).length ≤ 4294967296) : t_impl_ValidStroke s = some (vS (s.points.getD [])) := by
  obtain ⟨l, hL⟩ : ∃ l, s.points.getD [] = l := ⟨_, rfl⟩
  rw [hL] at hl ⊢
  have lp := loopT_first (step := s0_impl_ValidStroke s) l (fV l) (.inl ()) .inr
    (fun k a ha => by
      have hk := get_lt ha
      have c : (k : Int) < (l.length : Nat) := by omega
      have ws := wr_succ hk hl
      unfold s0_impl_ValidStroke fV
      simp only [hL, c, decide_true, cond_true, getI_nat ha, obind_sm, validPoint_vP, ws]
      by_cases k0 : k = 0
      · have D1 : decide ((0 : Int) < (k : Int)) = false := decide_eq_false (by omega)
        have D2 : decide (0 < k) = false := decide_eq_false (by omega)
        rw [D1, D2]
        cases vP a <;> rfl
      · have D1 : decide ((0 : Int) < (k : Int)) = true := decide_eq_true (by omega)
        have D2 : decide (0 < k) = true := decide_eq_true (by omega)
        rw [D1, D2, prev_get (d := ⟨0, 0, 0⟩) hk (by omega) hl]
        simp only [obind_sm]
        cases vP a <;> cases decide (a.t ≤ (l.getD (k - 1) ⟨0, 0, 0⟩).t) <;> rfl)
    (by
      unfold s0_impl_ValidStroke
      simp only [hL, Int.lt_irrefl, decide_false, cond_false])
  have d1 : decide ((1 : Int) ≤ ((l.length : Nat) : Int)) = decide (1 ≤ l.length) := decide_eq_decide.2 (by omega)
  have d2 : decide (((l.length : Nat) : Int) ≤ 60) = decide (l.length ≤ 60) := decide_eq_decide.2 (by omega)
  unfold t_impl_ValidStroke vS
  rw [lp]
  cases firstL (fV l) l 0 with
  | none =>
    simp only [obind_sm, hL, d1, d2]
    cases decide (1 ≤ l.length) <;> cases decide (l.length ≤ 60) <;> rfl
  | some r => rfl

theorem l02Stroke_vS (s : Stroke) (hl : (s.points.getD []).length ≤ 4294967296) : t_spec_l02Stroke s = some (vS (s.points.getD [])) := by
  obtain ⟨l, hL⟩ : ∃ l, s.points.getD [] = l := ⟨_, rfl⟩
  rw [hL] at hl ⊢
  have lp := loopT_first (step := s0_spec_l02Stroke s) l (fV l) (.inl ()) .inr
    (fun k a ha => by
      have hk := get_lt ha
      have c : (k : Int) < (l.length : Nat) := by omega
      have ws := wr_succ hk hl
      unfold s0_spec_l02Stroke fV
      simp only [hL, c, decide_true, cond_true, getI_nat ha, obind_sm, l02Point_vP, ws]
      by_cases k0 : k = 0
      · have D1 : decide ((0 : Int) < (k : Int)) = false := decide_eq_false (by omega)
        have D2 : decide (0 < k) = false := decide_eq_false (by omega)
        rw [D1, D2]
        cases vP a <;> rfl
      · have D1 : decide ((0 : Int) < (k : Int)) = true := decide_eq_true (by omega)
        have D2 : decide (0 < k) = true := decide_eq_true (by omega)
        rw [D1, D2, prev_get (d := ⟨0, 0, 0⟩) hk (by omega) hl]
        simp only [obind_sm]
        cases vP a <;> cases decide (a.t ≤ (l.getD (k - 1) ⟨0, 0, 0⟩).t) <;> rfl)
    (by
      unfold s0_spec_l02Stroke
      simp only [hL, Int.lt_irrefl, decide_false, cond_false])
  have d1 : within ((l.length : Nat) : Int) 1 60 = (decide (1 ≤ l.length) && decide (l.length ≤ 60)) := by
    unfold within
    congr 1 <;> exact decide_eq_decide.2 (by omega)
  unfold t_spec_l02Stroke vS
  rw [lp]
  cases firstL (fV l) l 0 with
  | none =>
    simp only [obind_sm, hL, d1]
  | some r => rfl

theorem firstL_no {A R : Type} {f : Nat → A → Option R} : ∀ {l : List A} {k : Nat}, firstL f l k = none → ∀ i a, l[i]? = some a → f (k + i) a = none
  | [], _, _, i, a, ha => by simp at ha
  | b :: l, k, h, i, a, ha => by
    unfold firstL at h
    cases e : f k b with
    | some r => rw [e] at h; cases h
    | none =>
      rw [e] at h
      cases i with
      | zero =>
        simp only [List.getElem?_cons_zero, Option.some.injEq] at ha
        subst ha
        exact e
      | succ i =>
        have := firstL_no h i a (by simpa using ha)
        rw [← this]
        congr 1
        omega

theorem firstL_so {A R : Type} {f : Nat → A → Option R} : ∀ {l : List A} {k : Nat} {r : R}, firstL f l k = some r → ∃ i a, f i a = some r
  | [], _, _, h => by cases h
  | b :: l, k, r, h => by
    unfold firstL at h
    cases e : f k b with
    | some r' => rw [e] at h; cases h; exact ⟨k, b, e⟩
    | none => rw [e] at h; exact firstL_so h

theorem vS_iff {l : List Point} : vS l = true ↔ StV l := by
  unfold vS
  constructor
  · intro h
    cases e : firstL (fV l) l 0 with
    | some r =>
      rw [e] at h
      simp only at h
      subst h
      obtain ⟨i, a, hf⟩ := firstL_so e
      unfold fV at hf
      cases h2 : (!vP a || (decide (0 < i) && decide (a.t ≤ (l.getD (i - 1) ⟨0, 0, 0⟩).t))) <;> rw [h2] at hf <;> cases hf
    | none =>
      rw [e] at h
      simp only [Bool.and_eq_true, decide_eq_true_eq] at h
      have no := firstL_no e
      have no' : ∀ i a, l[i]? = some a → vP a = true ∧ (0 < i → (l.getD (i - 1) ⟨0, 0, 0⟩).t < a.t) := fun i a ha => by
        have h1 := no i a ha
        rw [Nat.zero_add] at h1
        unfold fV at h1
        cases h2 : (!vP a || (decide (0 < i) && decide (a.t ≤ (l.getD (i - 1) ⟨0, 0, 0⟩).t))) with
        | true => rw [h2] at h1; cases h1
        | false =>
          simp only [Bool.or_eq_false_iff, Bool.not_eq_false', Bool.and_eq_false_iff, decide_eq_false_iff_not] at h2
          exact ⟨h2.1, fun h3 => by rcases h2.2 with h4 | h4 <;> omega⟩
      refine ⟨fun p hp => ?_, fun k p q h1 h2 => ?_, h.1, h.2⟩
      · obtain ⟨i, hi⟩ := List.mem_iff_getElem?.1 hp
        exact vP_iff.1 (no' i p hi).1
      · have h3 := (no' (k + 1) q h2).2 (by omega)
        rw [Nat.add_sub_cancel, List.getD_eq_getElem?_getD, h1] at h3
        exact h3
  · intro h
    have e : firstL (fV l) l 0 = none := firstL_none fun i a ha => by
      rw [Nat.zero_add]
      unfold fV
      have h1 := vP_iff.2 (h.pts a (List.mem_of_getElem? ha))
      have h2 : (decide (0 < i) && decide (a.t ≤ (l.getD (i - 1) ⟨0, 0, 0⟩).t)) = false := by
        by_cases c : 0 < i
        · obtain ⟨p, hp⟩ : ∃ p, l[i - 1]? = some p := ⟨l[i - 1]'(by have := get_lt ha; omega), List.getElem?_eq_getElem _⟩
          have h3 := h.inc (i - 1) p a hp (by rw [Nat.sub_add_cancel c]; exact ha)
          rw [List.getD_eq_getElem?_getD, hp]
          have : ¬ a.t ≤ p.t := by omega
          simp [this]
        · simp [c]
      rw [h1, h2]
      rfl
    rw [e]
    have h1 := h.n1
    have h2 := h.n2
    simp [h1, h2]

theorem StB.le {s : Stroke} (h : StB s) : (s.points.getD []).length ≤ 4294967296 := Nat.le_trans h.n (by omega)

def sumN (f : Nat → Int) : Nat → Int
  | 0 => 0
  | k + 1 => sumN f k + f k

def pt (l : List Point) (i : Nat) : Point := l.getD i ⟨0, 0, 0⟩

theorem get_pt {l : List Point} {i : Nat} (h : i < l.length) : getI l ((i : Nat) : Int) = some (pt l i) := by
  apply getI_nat
  unfold pt
  rw [List.getD_eq_getElem?_getD, List.getElem?_eq_getElem h]
  rfl

/-- One pair lies ahead of another. -/
def Pre (p q i j : Nat) : Prop := (i = p + 1 ∧ j = q + 1) ∨ (i = p + 1 ∧ j = q) ∨ (i = p ∧ j = q + 1)

/-- A path's cost, from the first pair on. -/
inductive Pth (C : Nat → Nat → Int) (R : Nat → Nat → Prop) : Nat → Nat → Int → Prop
  | start : R 0 0 → Pth C R 0 0 (C 0 0)
  | step {p q i j : Nat} {c : Int} : Pth C R p q c → Pre p q i j → R i j → Pth C R i j (c + C i j)

/-- The least cost of the paths to a pair, `B` where there is none. -/
def Opt (B : Int) (C : Nat → Nat → Int) (R : Nat → Nat → Prop) (i j : Nat) (v : Int) : Prop :=
  (v = B ∧ ∀ c, ¬ Pth C R i j c) ∨ (v < B ∧ Pth C R i j v ∧ ∀ c, Pth C R i j c → v ≤ c)

theorem Opt.le {B : Int} {C : Nat → Nat → Int} {R : Nat → Nat → Prop} {i j : Nat} {v : Int} (h : Opt B C R i j v) : v ≤ B := by
  rcases h with ⟨h, _⟩ | ⟨h, _⟩ <;> omega

theorem Pth.mono {C D : Nat → Nat → Int} {R S : Nat → Nat → Prop} {i j : Nat} {c : Int} (h : Pth C R i j c) (hR : ∀ p q, p ≤ i → q ≤ j → R p q → S p q) (hC : ∀ p q, p ≤ i → q ≤ j → C p q = D p q) : Pth D S i j c := by
  induction h with
  | start h =>
    rw [hC 0 0 (Nat.le_refl _) (Nat.le_refl _)]
    exact .start (hR 0 0 (Nat.le_refl _) (Nat.le_refl _) h)
  | @step p q i j c h1 h2 h3 ih =>
    have hle : p ≤ i ∧ q ≤ j := by rcases h2 with h | h | h <;> omega
    rw [hC i j (Nat.le_refl _) (Nat.le_refl _)]
    exact .step (ih (fun a b h4 h5 => hR a b (by omega) (by omega)) (fun a b h4 h5 => hC a b (by omega) (by omega))) h2 (hR i j (Nat.le_refl _) (Nat.le_refl _) h3)

def fAt (l : List Feat) (i : Nat) : Feat := l.getD i ⟨0, 0, 0⟩

def siz (x : Int) : Int := if x < 0 then -x else x

def fcost (a b : Feat) : Int := siz (a.x - b.x) + siz (a.y - b.y) + 16 * min (siz (a.d - b.d)) (8 - siz (a.d - b.d))

theorem absI_siz {x : Int} (h : -1000000 ≤ x) (h' : x ≤ 1000000) : absI x = siz x := by
  unfold absI siz
  by_cases c : x < 0
  · have w : wr (-x) = -x := wr_id (by omega) (by omega)
    simp [c, w]
  · simp [c]

/-- A table's entry. -/
def Val (T : List (Sl Int)) (p q : Nat) (v : Int) : Prop := ∃ row, T[p]? = some (some row) ∧ row[q]? = some v

abbrev far : Int := 1099511627776

abbrev elC (a b : List Feat) : Nat → Nat → Int := fun i j => fcost (fAt a i) (fAt b j)

abbrev elR (band : Int) : Nat → Nat → Prop := fun i j => siz ((i : Int) - (j : Int)) ≤ band

/-- The table's rows ahead of `i`, and `j` entries of row `i`, are the least costs. -/
structure Tbl (a b : List Feat) (band : Int) (i j : Nat) (T : List (Sl Int)) : Prop where
  len : T.length = a.length
  val : ∀ p q, q < b.length → (p < i ∨ p = i ∧ q < j) → ∃ v, Val T p q v ∧ Opt far (elC a b) (elR band) p q v

theorem Val.set {T : List (Sl Int)} {i j p q : Nat} {row : List Int} {v w : Int} (hr : T[i]? = some (some row)) (hj : j < row.length) :
    Val (T.set i (some (row.set j w))) p q v ↔ (p = i ∧ q = j ∧ v = w) ∨ (¬ (p = i ∧ q = j) ∧ Val T p q v) := by
  have hi := get_lt hr
  unfold Val
  constructor
  · rintro ⟨r, h1, h2⟩
    by_cases c : i = p
    · subst c
      rw [List.getElem?_set_self hi] at h1
      cases h1
      by_cases d : j = q
      · subst d
        rw [List.getElem?_set_self hj] at h2
        cases h2
        exact .inl ⟨rfl, rfl, rfl⟩
      · rw [List.getElem?_set_ne d] at h2
        exact .inr ⟨fun h => d h.2.symm, row, hr, h2⟩
    · rw [List.getElem?_set_ne c] at h1
      exact .inr ⟨fun h => c h.1.symm, r, h1, h2⟩
  · rintro (⟨rfl, rfl, rfl⟩ | ⟨hne, r, h1, h2⟩)
    · exact ⟨_, List.getElem?_set_self hi, List.getElem?_set_self hj⟩
    · by_cases c : i = p
      · subst c
        rw [hr] at h1
        cases h1
        have d : j ≠ q := fun h => hne ⟨rfl, h.symm⟩
        exact ⟨_, List.getElem?_set_self hi, by rw [List.getElem?_set_ne d]; exact h2⟩
      · exact ⟨r, by rw [List.getElem?_set_ne c]; exact h1, h2⟩

theorem Tbl.step {a b : List Feat} {band : Int} {i j : Nat} {T : List (Sl Int)} {row : List Int} {v : Int} (h : Tbl a b band i j T) (hr : T[i]? = some (some row)) (hj : j < row.length) (ho : Opt far (elC a b) (elR band) i j v) : Tbl a b band i (j + 1) (T.set i (some (row.set j v))) := by
  refine ⟨by simp [h.len], fun p q hq hpq => ?_⟩
  by_cases e : p = i ∧ q = j
  · obtain ⟨rfl, rfl⟩ := e
    exact ⟨v, (Val.set hr hj).2 (.inl ⟨rfl, rfl, rfl⟩), ho⟩
  · obtain ⟨w, h1, h2⟩ := h.val p q hq (by omega)
    exact ⟨w, (Val.set hr hj).2 (.inr ⟨e, h1⟩), h2⟩

/-- A path through rows from the first one on, from any column `f`. -/
def PF (C : Nat → Nat → Int) (f i j : Nat) (c : Int) : Prop := f ≤ j ∧ Pth (fun p q => C p (q + f)) (fun _ _ => True) i (j - f) c

theorem PF.start {C : Nat → Nat → Int} (j : Nat) : PF C j 0 j (C 0 j) := by
  refine ⟨Nat.le_refl _, ?_⟩
  have h := Pth.start (C := fun p q => C p (q + j)) (R := fun _ _ => True) trivial
  simp only [Nat.zero_add] at h
  rw [Nat.sub_self]
  exact h

theorem PF.step {C : Nat → Nat → Int} {f p q i j : Nat} {c : Int} (h : PF C f p q c) (hp : Pre p q i j) : PF C f i j (c + C i j) := by
  obtain ⟨h1, h2⟩ := h
  have hj : q ≤ j := by unfold Pre at hp; omega
  refine ⟨by omega, ?_⟩
  have h3 : Pth (fun p q => C p (q + f)) (fun _ _ => True) i (j - f) (c + C i (j - f + f)) := Pth.step (i := i) (j := j - f) h2 (by unfold Pre at *; omega) trivial
  rw [Nat.sub_add_cancel (by omega)] at h3
  exact h3

/-- The least of the paths to a pair, and where it begins. -/
def PO (C : Nat → Nat → Int) (i j : Nat) (x : Part) : Prop := ∃ f : Nat, x.frm = (f : Int) ∧ PF C f i j x.cost ∧ ∀ g c, PF C g i j c → x.cost ≤ c

def PVal (T : List (Sl Part)) (p q : Nat) (v : Part) : Prop := ∃ row, T[p]? = some (some row) ∧ row[q]? = some v

theorem PVal.set {T : List (Sl Part)} {i j p q : Nat} {row : List Part} {v w : Part} (hr : T[i]? = some (some row)) (hj : j < row.length) :
    PVal (T.set i (some (row.set j w))) p q v ↔ (p = i ∧ q = j ∧ v = w) ∨ (¬ (p = i ∧ q = j) ∧ PVal T p q v) := by
  have hi := get_lt hr
  unfold PVal
  constructor
  · rintro ⟨r, h1, h2⟩
    by_cases c : i = p
    · subst c
      rw [List.getElem?_set_self hi] at h1
      cases h1
      by_cases d : j = q
      · subst d
        rw [List.getElem?_set_self hj] at h2
        cases h2
        exact .inl ⟨rfl, rfl, rfl⟩
      · rw [List.getElem?_set_ne d] at h2
        exact .inr ⟨fun h => d h.2.symm, row, hr, h2⟩
    · rw [List.getElem?_set_ne c] at h1
      exact .inr ⟨fun h => c h.1.symm, r, h1, h2⟩
  · rintro (⟨rfl, rfl, rfl⟩ | ⟨hne, r, h1, h2⟩)
    · exact ⟨_, List.getElem?_set_self hi, List.getElem?_set_self hj⟩
    · by_cases c : i = p
      · subst c
        rw [hr] at h1
        cases h1
        have d : j ≠ q := fun h => hne ⟨rfl, h.symm⟩
        exact ⟨_, List.getElem?_set_self hi, by rw [List.getElem?_set_ne d]; exact h2⟩
      · exact ⟨r, by rw [List.getElem?_set_ne c]; exact h1, h2⟩

/-- The entries ahead of a place are the least parts. -/
structure PTbl (a b : List Feat) (i j : Nat) (T : List (Sl Part)) : Prop where
  len : T.length = a.length
  rows : ∀ (k : Nat) (row : List Part), T[k]? = some (some row) → row.length = b.length
  val : ∀ p q, q < b.length → (p < i ∨ p = i ∧ q < j) → ∃ v, PVal T p q v ∧ PO (elC a b) p q v

theorem rows_set {m : Nat} {T : List (Sl Part)} {i : Nat} {r : List Part} (h : ∀ (k : Nat) (row : List Part), T[k]? = some (some row) → row.length = m) (hr : r.length = m) : ∀ (k : Nat) (row : List Part), (T.set i (some r))[k]? = some (some row) → row.length = m := by
  intro k row hk
  by_cases c : i = k
  · subst c
    have hlt := get_lt hk
    rw [List.length_set] at hlt
    rw [List.getElem?_set_self hlt] at hk
    cases hk
    exact hr
  · rw [List.getElem?_set_ne c] at hk
    exact h k row hk

theorem PTbl.step {a b : List Feat} {i j : Nat} {T : List (Sl Part)} {row : List Part} {v : Part} (h : PTbl a b i j T) (hr : T[i]? = some (some row)) (hj : j < b.length) (ho : PO (elC a b) i j v) : PTbl a b i (j + 1) (T.set i (some (row.set j v))) := by
  have hl := h.rows _ _ hr
  refine ⟨by rw [List.length_set, h.len], rows_set h.rows (by rw [List.length_set, hl]), fun p q hq hpq => ?_⟩
  by_cases e : p = i ∧ q = j
  · obtain ⟨rfl, rfl⟩ := e
    exact ⟨v, (PVal.set hr (by omega)).2 (.inl ⟨rfl, rfl, rfl⟩), ho⟩
  · obtain ⟨w, h1, h2⟩ := h.val p q hq (by omega)
    exact ⟨w, (PVal.set hr (by omega)).2 (.inr ⟨e, h1⟩), h2⟩

/-- The segment is steeper than the half of a quarter. -/
def pq (a b : Int) : Bool := decide ((a + b) * (a + b) ≤ 2 * a * a)

theorem siz_nn (x : Int) : 0 ≤ siz x := by unfold siz; split <;> omega

theorem siz_z {x : Int} (h : siz x = 0) : x = 0 := by unfold siz at h; split at h <;> omega

theorem siz_neg (x : Int) : siz (-x) = siz x := by unfold siz; split <;> split <;> omega

theorem sq_nn (a : Int) : 0 ≤ a * a := by
  rcases Int.le_total 0 a with h | h
  · exact Int.mul_nonneg h h
  · have := Int.mul_nonneg (show 0 ≤ -a by omega) (show 0 ≤ -a by omega)
    rwa [Int.neg_mul_neg] at this

theorem sq_z {a : Int} (h : a * a ≤ 0) : a = 0 := by
  have := sq_nn a
  have h2 : a * a = 0 := by omega
  rcases Int.mul_eq_zero.1 h2 with h | h <;> exact h

theorem pq_exp (a b : Int) : (a + b) * (a + b) = a * a + 2 * (a * b) + b * b := by
  rw [Int.add_mul, Int.mul_add, Int.mul_add, Int.mul_comm b a]
  omega

theorem pq_both {a b : Int} (ha : 0 ≤ a) (hb : 0 ≤ b) (h1 : pq a b = true) (h2 : pq b a = true) : a = 0 ∧ b = 0 := by
  have h1 := of_decide_eq_true h1
  have h2 := of_decide_eq_true h2
  rw [pq_exp, Int.mul_assoc] at h1 h2
  rw [Int.mul_comm b a] at h2
  have hab := Int.mul_nonneg ha hb
  have ab : a * b = 0 := by omega
  rcases Int.mul_eq_zero.1 ab with h | h
  · subst h
    exact ⟨rfl, sq_z (by omega)⟩
  · subst h
    exact ⟨sq_z (by omega), rfl⟩

theorem pq_x {a b : Int} (h1 : pq a b = true) (h : a = 0) : b = 0 := by
  have h1 := of_decide_eq_true h1
  subst h
  rw [Int.zero_add] at h1
  exact sq_z (by omega)

theorem pq_0 (b : Int) : pq b 0 = true := by
  apply decide_eq_true
  rw [Int.add_zero, Int.mul_assoc]
  have := sq_nn b
  omega

/-- The direction of a difference. -/
def dirn (dx dy : Int) : Int :=
  bif pq (siz dx) (siz dy) then (bif decide (0 < dx) then 0 else 4)
  else bif pq (siz dy) (siz dx) then (bif decide (0 < dy) then 2 else 6)
  else bif decide (0 < dx) && decide (0 < dy) then 1 else bif decide (0 < dy) then 3 else bif decide (dx < 0) then 5 else 7

theorem dirn_cs {dx dy : Int} (hz : ¬ (dx = 0 ∧ dy = 0)) :
    (pq (siz dx) (siz dy) = true ∧ pq (siz dy) (siz dx) = false ∧ dx ≠ 0) ∨ (pq (siz dx) (siz dy) = false ∧ pq (siz dy) (siz dx) = true ∧ dy ≠ 0) ∨ (pq (siz dx) (siz dy) = false ∧ pq (siz dy) (siz dx) = false ∧ dx ≠ 0 ∧ dy ≠ 0) := by
  have a0 := siz_nn dx
  have b0 := siz_nn dy
  have nz : ¬ (siz dx = 0 ∧ siz dy = 0) := fun h => hz ⟨siz_z h.1, siz_z h.2⟩
  have z0 : siz 0 = 0 := rfl
  cases h1 : pq (siz dx) (siz dy) with
  | true =>
    cases h2 : pq (siz dy) (siz dx) with
    | true => exact absurd (pq_both a0 b0 h1 h2) nz
    | false =>
      refine .inl ⟨rfl, rfl, fun h => ?_⟩
      subst h
      exact nz ⟨z0, pq_x h1 z0⟩
  | false =>
    cases h2 : pq (siz dy) (siz dx) with
    | true =>
      refine .inr (.inl ⟨rfl, rfl, fun h => ?_⟩)
      subst h
      exact nz ⟨pq_x h2 z0, z0⟩
    | false =>
      refine .inr (.inr ⟨rfl, rfl, fun h => ?_, fun h => ?_⟩)
      · subst h
        rw [z0, pq_0] at h2
        cases h2
      · subst h
        rw [z0, pq_0] at h1
        cases h1

theorem dirn_le (dx dy : Int) : 0 ≤ dirn dx dy ∧ dirn dx dy ≤ 7 := by
  unfold dirn
  cases pq (siz dx) (siz dy) <;> cases pq (siz dy) (siz dx) <;> cases decide (0 < dx) <;> cases decide (0 < dy) <;> cases decide (dx < 0) <;> decide

theorem dirn_laws {dx dy : Int} (hz : ¬ (dx = 0 ∧ dy = 0)) : dirn (-dx) (-dy) = Int.tmod (dirn dx dy + 4) 8 ∧ dirn (-dy) dx = Int.tmod (dirn dx dy + 2) 8 ∧ dirn dx (-dy) = Int.tmod (8 - dirn dx dy) 8 := by
  have c := dirn_cs hz
  unfold dirn
  rw [siz_neg, siz_neg]
  have nx : decide (0 < -dx) = decide (dx < 0) := decide_eq_decide.2 (by omega)
  have ny : decide (0 < -dy) = decide (dy < 0) := decide_eq_decide.2 (by omega)
  have mx : decide (-dx < 0) = decide (0 < dx) := decide_eq_decide.2 (by omega)
  have my : decide (-dy < 0) = decide (0 < dy) := decide_eq_decide.2 (by omega)
  rw [nx, ny, mx, my]
  rcases c with ⟨h1, h2, h3⟩ | ⟨h1, h2, h3⟩ | ⟨h1, h2, h3, h4⟩ <;> rw [h1, h2]
  · have e : decide (dx < 0) = !decide (0 < dx) := by rw [← decide_not]; exact decide_eq_decide.2 (by omega)
    rw [e]
    cases decide (0 < dx) <;> cases decide (0 < dy) <;> cases decide (dy < 0) <;> decide
  · have e : decide (dy < 0) = !decide (0 < dy) := by rw [← decide_not]; exact decide_eq_decide.2 (by omega)
    rw [e]
    cases decide (0 < dy) <;> cases decide (0 < dx) <;> cases decide (dx < 0) <;> decide
  · have e : decide (dx < 0) = !decide (0 < dx) := by rw [← decide_not]; exact decide_eq_decide.2 (by omega)
    have e' : decide (dy < 0) = !decide (0 < dy) := by rw [← decide_not]; exact decide_eq_decide.2 (by omega)
    rw [e, e']
    cases decide (0 < dx) <;> cases decide (0 < dy) <;> decide

theorem wr_sq {a b : Int} (ha : 0 ≤ a ∧ a ≤ 5000) (hb : 0 ≤ b ∧ b ≤ 5000) : decide (wr (wr (a + b) * wr (a + b)) ≤ wr (wr (2 * a) * a)) = pq a b := by
  have w1 : wr (a + b) = a + b := wr_id (by omega) (by omega)
  have w2 : wr (2 * a) = 2 * a := wr_id (by omega) (by omega)
  have m1 := Int.mul_nonneg (show 0 ≤ a + b by omega) (show 0 ≤ a + b by omega)
  have m2 := Int.mul_le_mul (show a + b ≤ 10000 by omega) (show a + b ≤ 10000 by omega) (by omega) (by omega)
  have m3 := Int.mul_nonneg (show 0 ≤ 2 * a by omega) (show 0 ≤ a by omega)
  have m4 := Int.mul_le_mul (show 2 * a ≤ 10000 by omega) (show a ≤ 5000 by omega) (by omega) (by omega)
  rw [w1, w2, wr_id (n := (a + b) * (a + b)) (by omega) (by omega), wr_id (n := 2 * a * a) (by omega) (by omega)]
  rfl

theorem dirs_eq {dx dy : Int} (hx : -4095 ≤ dx ∧ dx ≤ 4095) (hy : -4095 ≤ dy ∧ dy ≤ 4095) (hz : ¬ (dx = 0 ∧ dy = 0)) : t_impl_directionOf dx dy = some (dirn dx dy) ∧ t_spec_l05Sector dx dy = some (dirn dx dy) := by
  have c := dirn_cs hz
  have a1 := siz_nn dx
  have a2 : siz dx ≤ 4095 := by unfold siz; split <;> omega
  have b1 := siz_nn dy
  have b2 : siz dy ≤ 4095 := by unfold siz; split <;> omega
  have s1 := absI_siz (x := dx) (by omega) (by omega)
  have s2 := absI_siz (x := dy) (by omega) (by omega)
  have q1 := wr_sq (a := siz dx) (b := siz dy) (by omega) (by omega)
  have q2 := wr_sq (a := siz dy) (b := siz dx) (by omega) (by omega)
  rw [Int.add_comm (siz dy) (siz dx)] at q2
  have ez : ∀ (p : Prop) [Decidable p], decide p = true ∨ decide p = false := fun p _ => by cases decide p <;> simp
  unfold t_impl_directionOf t_spec_l05Sector dirn
  simp only [obind_sm, s1, s2, q1, q2]
  rcases c with ⟨h1, h2, h3⟩ | ⟨h1, h2, h3⟩ | ⟨h1, h2, h3, h4⟩ <;> rw [h1, h2]
  · cases decide (0 < dx) <;> exact ⟨rfl, rfl⟩
  · cases decide (0 < dy) <;> exact ⟨rfl, rfl⟩
  · have e : decide (dx < 0) = !decide (0 < dx) := by rw [← decide_not]; exact decide_eq_decide.2 (by omega)
    rw [e]
    cases decide (0 < dx) <;> cases decide (0 < dy) <;> exact ⟨rfl, rfl⟩

/-- Do two points that follow on each other differ? -/
def mvs (l : List Point) (i : Nat) : Bool := !decide ((pt l (i + 1)).x - (pt l i).x = 0) || !decide ((pt l (i + 1)).y - (pt l i).y = 0)

def dirL (l : List Point) : Nat → List Int
  | 0 => []
  | k + 1 => dirL l k ++ (bif mvs l k then [dirn ((pt l (k + 1)).x - (pt l k).x) ((pt l (k + 1)).y - (pt l k).y)] else [])

theorem dirL_le (l : List Point) : ∀ k, (dirL l k).length ≤ k ∧ ∀ x ∈ dirL l k, 0 ≤ x ∧ x ≤ 7
  | 0 => ⟨Nat.le_refl _, fun x hx => by cases hx⟩
  | k + 1 => by
    obtain ⟨h1, h2⟩ := dirL_le l k
    unfold dirL
    cases mvs l k with
    | true =>
      refine ⟨by simp; omega, fun x hx => ?_⟩
      rcases List.mem_append.1 hx with hx | hx
      · exact h2 x hx
      · simp only [cond_true, List.mem_singleton] at hx
        subst hx
        exact dirn_le _ _
    | false =>
      refine ⟨by simp; omega, fun x hx => ?_⟩
      rcases List.mem_append.1 hx with hx | hx
      · exact h2 x hx
      · cases hx

theorem pt_v {l : List Point} (h : StV l) {i : Nat} (hi : i < l.length) : PtV (pt l i) := by
  have g := get_pt hi
  exact h.pts _ (List.mem_of_getElem? (getI_iff.1 g).2)

theorem dirsLoop {s : Stroke} (h : StV (s.points.getD [])) (s0 : Sl Int) (hs0 : s0.getD [] = []) (step : ((Sl Int) × Int) → Option (Sum ((Sl Int) × Int) (Sl Int)))
    (next : ∀ (w : Sl Int) (k : Nat), k + 1 < (s.points.getD []).length → step (w, ((k + 1 : Nat) : Int)) = (bif mvs (s.points.getD []) k then obind (some (dirn ((pt (s.points.getD []) (k + 1)).x - (pt (s.points.getD []) k).x) ((pt (s.points.getD []) (k + 1)).y - (pt (s.points.getD []) k).y))) fun c => obind (appO w [c]) fun _ => some (.inl (appS w [c], wr (((k + 1 : Nat) : Int) + 1))) else some (.inl (w, wr (((k + 1 : Nat) : Int) + 1)))))
    (fin : ∀ (w : Sl Int) (k : Int), ¬ k < (((s.points.getD []).length : Nat) : Int) → step (w, k) = some (.inr w)) :
    ∃ q, loopT step (s0, 1) = some q ∧ q.getD [] = dirL (s.points.getD []) ((s.points.getD []).length - 1) := by
  have n1 := h.n1
  have n2 := h.n2
  exact loopT_ex (step := step) (fun k t => t.1.getD [] = dirL (s.points.getD []) k ∧ t.2 = ((k + 1 : Nat) : Int)) ((s.points.getD []).length - 1) (fun q => q.getD [] = dirL (s.points.getD []) ((s.points.getD []).length - 1))
    (fun k ⟨w, i⟩ hk ⟨g1, g2⟩ => by
      simp only at g1 g2
      subst g2
      have e := next w k (by omega)
      have ws : wr (((k + 1 : Nat) : Int) + 1) = ((k + 1 + 1 : Nat) : Int) := by rw [wr_id (by omega) (by omega)]; omega
      have ll := (dirL_le (s.points.getD []) k).1
      rw [ws] at e
      cases hm : mvs (s.points.getD []) k with
      | true =>
        rw [hm, cond_true, obind_sm, appO_one w _ (by rw [g1]; omega), obind_sm, appS_cons] at e
        refine .inl ⟨_, e, ?_, rfl⟩
        show w.getD [] ++ _ = _
        unfold dirL
        rw [g1, hm]
        rfl
      | false =>
        rw [hm, cond_false] at e
        refine .inl ⟨_, e, ?_, rfl⟩
        show w.getD [] = _
        unfold dirL
        rw [g1, hm, cond_false, List.append_nil])
    (fun ⟨w, i⟩ ⟨g1, g2⟩ => by
      simp only at g1 g2
      subst g2
      exact ⟨w, fin w _ (by omega), g1⟩)
    (s := (s0, 1)) ⟨hs0, rfl⟩

theorem stepFacts {s : Stroke} (h : StV (s.points.getD [])) {k : Nat} (hk : k + 1 < (s.points.getD []).length) :
    let a := pt (s.points.getD []) k
    let b := pt (s.points.getD []) (k + 1)
    wr (((k + 1 : Nat) : Int) - 1) = ((k : Nat) : Int) ∧ wr (b.x - a.x) = b.x - a.x ∧ wr (b.y - a.y) = b.y - a.y ∧ (mvs (s.points.getD []) k = true → t_impl_directionOf (b.x - a.x) (b.y - a.y) = some (dirn (b.x - a.x) (b.y - a.y)) ∧ t_spec_l05Sector (b.x - a.x) (b.y - a.y) = some (dirn (b.x - a.x) (b.y - a.y))) := by
  intro a b
  have n2 := h.n2
  have pa : PtV a := pt_v h (by omega)
  have pb : PtV b := pt_v h hk
  obtain ⟨a1, a2, a3, a4, _, _⟩ := pa
  obtain ⟨b1, b2, b3, b4, _, _⟩ := pb
  refine ⟨by rw [wr_id (by omega) (by omega)]; omega, wr_id (by omega) (by omega), wr_id (by omega) (by omega), fun hm => dirs_eq (by omega) (by omega) fun hz => ?_⟩
  have hm' : (!decide (b.x - a.x = 0) || !decide (b.y - a.y = 0)) = true := hm
  rw [hz.1, hz.2] at hm'
  cases hm'

theorem implDirs_ok {s : Stroke} (h : StV (s.points.getD [])) : ∃ q, t_impl_directionsOf s = some q ∧ q.getD [] = dirL (s.points.getD []) ((s.points.getD []).length - 1) := by
  obtain ⟨q, e, hq⟩ := dirsLoop h none rfl (s0_impl_directionsOf s) (fun w k hk => by
    obtain ⟨w1, w2, w3, d⟩ := stepFacts h hk
    have c : ((k + 1 : Nat) : Int) < (((s.points.getD []).length : Nat) : Int) := by omega
    unfold s0_impl_directionsOf
    simp only [c, decide_true, cond_true, w1, get_pt (l := s.points.getD []) (i := k) (by omega), get_pt hk, obind_sm, w2, w3]
    have ex : ∀ x y : Int, decide (x = y) = decide (y - x = 0) := fun x y => decide_eq_decide.2 (by omega)
    cases hm : mvs (s.points.getD []) k with
    | true =>
      rw [(d hm).1]
      unfold mvs at hm
      simp only [ex (pt (s.points.getD []) k).x (pt (s.points.getD []) (k + 1)).x, ex (pt (s.points.getD []) k).y (pt (s.points.getD []) (k + 1)).y]
      cases h1 : decide ((pt (s.points.getD []) (k + 1)).x - (pt (s.points.getD []) k).x = 0) <;> cases h2 : decide ((pt (s.points.getD []) (k + 1)).y - (pt (s.points.getD []) k).y = 0) <;> rw [h1, h2] at hm <;> first | rfl | cases hm
    | false =>
      unfold mvs at hm
      simp only [ex (pt (s.points.getD []) k).x (pt (s.points.getD []) (k + 1)).x, ex (pt (s.points.getD []) k).y (pt (s.points.getD []) (k + 1)).y]
      cases h1 : decide ((pt (s.points.getD []) (k + 1)).x - (pt (s.points.getD []) k).x = 0) <;> cases h2 : decide ((pt (s.points.getD []) (k + 1)).y - (pt (s.points.getD []) k).y = 0) <;> rw [h1, h2] at hm <;> first | rfl | cases hm) (fun w k c => by
    unfold s0_impl_directionsOf
    simp only [c, decide_false, cond_false])
  refine ⟨q, ?_, hq⟩
  unfold t_impl_directionsOf
  rw [e, obind_sm]

theorem specDirs_ok {s : Stroke} (h : StV (s.points.getD [])) : ∃ q, t_spec_l05Directions s = some q ∧ q.getD [] = dirL (s.points.getD []) ((s.points.getD []).length - 1) := by
  obtain ⟨q, e, hq⟩ := dirsLoop h (some []) rfl (s0_spec_l05Directions s) (fun w k hk => by
    obtain ⟨w1, w2, w3, d⟩ := stepFacts h hk
    have c : ((k + 1 : Nat) : Int) < (((s.points.getD []).length : Nat) : Int) := by omega
    unfold s0_spec_l05Directions
    simp only [c, decide_true, cond_true, w1, get_pt (l := s.points.getD []) (i := k) (by omega), get_pt hk, obind_sm, w2, w3]
    cases hm : mvs (s.points.getD []) k with
    | true =>
      rw [(d hm).2]
      unfold mvs at hm
      cases h1 : decide ((pt (s.points.getD []) (k + 1)).x - (pt (s.points.getD []) k).x = 0) <;> cases h2 : decide ((pt (s.points.getD []) (k + 1)).y - (pt (s.points.getD []) k).y = 0) <;> rw [h1, h2] at hm <;> first | rfl | cases hm
    | false =>
      unfold mvs at hm
      cases h1 : decide ((pt (s.points.getD []) (k + 1)).x - (pt (s.points.getD []) k).x = 0) <;> cases h2 : decide ((pt (s.points.getD []) (k + 1)).y - (pt (s.points.getD []) k).y = 0) <;> rw [h1, h2] at hm <;> first | rfl | cases hm) (fun w k c => by
    unfold s0_spec_l05Directions
    simp only [c, decide_false, cond_false])
  refine ⟨q, ?_, hq⟩
  unfold t_spec_l05Directions
  rw [e, obind_sm]

def bnd (p c : Int) : Int := Int.tmod (c - p + 8 + 3) 8 - 3

theorem bnd_mod {p c : Int} (hp : 0 ≤ p ∧ p ≤ 7) (hc : 0 ≤ c ∧ c ≤ 7) : ∃ m, bnd p c = c - p + 8 * m ∧ -3 ≤ bnd p c ∧ bnd p c ≤ 4 := by
  unfold bnd
  rw [Int.tmod_eq_emod_of_nonneg (by omega)]
  exact ⟨(c - p + 8 + 3) % 8 / 8 - (c - p + 8 + 3) / 8 + 1, by omega, by omega, by omega⟩

theorem implBnd {p c : Int} (hp : 0 ≤ p ∧ p ≤ 7) (hc : 0 ≤ c ∧ c ≤ 7) : wr (Int.tmod (wr (wr (wr (c - p) + 8) + 3)) 8 - 3) = bnd p c := by
  obtain ⟨m, _, h1, h2⟩ := bnd_mod hp hc
  rw [wr_id (n := c - p) (by omega) (by omega), wr_id (n := c - p + 8) (by omega) (by omega), wr_id (n := c - p + 8 + 3) (by omega) (by omega)]
  exact wr_id (by show _ ≤ bnd p c; omega) (by show bnd p c ≤ _; omega)

theorem specBnd {p c : Int} (hp : 0 ≤ p ∧ p ≤ 7) (hc : 0 ≤ c ∧ c ≤ 7) : t_spec_l05Bend p c = some (bnd p c) := by
  unfold t_spec_l05Bend bnd
  rw [wr_id (n := c - p) (by omega) (by omega), wr_id (n := c - p + 8) (by omega) (by omega), Int.tmod_eq_emod_of_nonneg (a := c - p + 8) (by omega), Int.tmod_eq_emod_of_nonneg (a := c - p + 8 + 3) (by omega)]
  by_cases h : 4 < (c - p + 8) % 8
  · simp only [h, decide_true, cond_true]
    rw [wr_id (by omega) (by omega)]
    congr 1
    omega
  · simp only [h, decide_false, cond_false]
    congr 1
    omega

def ixI (L : List Int) (i : Nat) : Int := L.getD i 0

theorem get_ixI {L : List Int} {i : Nat} (h : i < L.length) : getI L ((i : Nat) : Int) = some (ixI L i) := by
  apply getI_nat
  unfold ixI
  rw [List.getD_eq_getElem?_getD, List.getElem?_eq_getElem h]
  rfl

theorem ixI_le {L : List Int} (h : ∀ x ∈ L, 0 ≤ x ∧ x ≤ 7) (i : Nat) : 0 ≤ ixI L i ∧ ixI L i ≤ 7 := by
  unfold ixI
  rw [List.getD_eq_getElem?_getD]
  cases e : L[i]? with
  | none => exact ⟨by simp, by simp⟩
  | some x => exact h x (List.mem_of_getElem? e)

def bsum (L : List Int) : Int := sumN (fun i => bnd (ixI L i) (ixI L (i + 1))) (L.length - 1)

theorem bsum_mod {L : List Int} (h : ∀ x ∈ L, 0 ≤ x ∧ x ≤ 7) : ∀ n, ∃ m, sumN (fun i => bnd (ixI L i) (ixI L (i + 1))) n = ixI L n - ixI L 0 + 8 * m ∧ -3 * (n : Int) ≤ sumN (fun i => bnd (ixI L i) (ixI L (i + 1))) n ∧ sumN (fun i => bnd (ixI L i) (ixI L (i + 1))) n ≤ 4 * (n : Int)
  | 0 => ⟨0, by simp [sumN], by simp [sumN], by simp [sumN]⟩
  | n + 1 => by
    obtain ⟨m, e, e1, e2⟩ := bsum_mod h n
    obtain ⟨m', e', e3, e4⟩ := bnd_mod (ixI_le h n) (ixI_le h (n + 1))
    refine ⟨m + m', ?_, ?_, ?_⟩
    · show sumN _ n + bnd _ _ = _
      omega
    · show _ ≤ sumN _ n + bnd _ _
      omega
    · show sumN _ n + bnd _ _ ≤ _
      omega

theorem bendLoop {L : List Int} (h : ∀ x ∈ L, 0 ≤ x ∧ x ≤ 7) (hl : L.length ≤ 100) (step : (Int × Int) → Option (Sum (Int × Int) Int))
    (next : ∀ (w : Int) (k : Nat), k + 1 < L.length → step (w, ((k + 1 : Nat) : Int)) = some (.inl (wr (w + bnd (ixI L k) (ixI L (k + 1))), wr (((k + 1 : Nat) : Int) + 1))))
    (fin : ∀ (w k : Int), ¬ k < ((L.length : Nat) : Int) → step (w, k) = some (.inr w)) : loopT step (0, 1) = some (bsum L) := by
  have r := loopT_at (step := step) (L.length - 1) (fun k => (sumN (fun i => bnd (ixI L i) (ixI L (i + 1))) k, ((k + 1 : Nat) : Int))) (bsum L)
    (fun k hk => by
      obtain ⟨m, _, e1, e2⟩ := bsum_mod h k
      obtain ⟨m', _, e3, e4⟩ := bnd_mod (ixI_le h k) (ixI_le h (k + 1))
      rw [next _ k (by omega), wr_id (by omega) (by omega), wr_id (by omega) (by omega)]
      rfl)
    (by
      rw [fin _ _ (by omega)]
      rfl)
    0 (Nat.zero_le _)
  exact r

theorem implBend_loop {q : Sl Int} (h : ∀ x ∈ q.getD [], 0 ≤ x ∧ x ≤ 7) (hl : (q.getD []).length ≤ 100) : loopT (s0_impl_BendOf q) (0, 1) = some (bsum (q.getD [])) :=
  bendLoop h hl _ (fun w k hk => by
    have c : ((k + 1 : Nat) : Int) < (((q.getD []).length : Nat) : Int) := by omega
    have w1 : wr (((k + 1 : Nat) : Int) - 1) = ((k : Nat) : Int) := by rw [wr_id (by omega) (by omega)]; omega
    unfold s0_impl_BendOf
    simp only [c, decide_true, cond_true, w1, get_ixI hk, get_ixI (show k < (q.getD []).length by omega), obind_sm, implBnd (ixI_le h k) (ixI_le h (k + 1))]) (fun w k c => by
    unfold s0_impl_BendOf
    simp only [c, decide_false, cond_false])

theorem specBend_loop {q : Sl Int} (h : ∀ x ∈ q.getD [], 0 ≤ x ∧ x ≤ 7) (hl : (q.getD []).length ≤ 100) : loopT (s0_spec_BendOf q) (0, 1) = some (bsum (q.getD [])) :=
  bendLoop h hl _ (fun w k hk => by
    have c : ((k + 1 : Nat) : Int) < (((q.getD []).length : Nat) : Int) := by omega
    have w1 : wr (((k + 1 : Nat) : Int) - 1) = ((k : Nat) : Int) := by rw [wr_id (by omega) (by omega)]; omega
    unfold s0_spec_BendOf
    simp only [c, decide_true, cond_true, w1, get_ixI hk, get_ixI (show k < (q.getD []).length by omega), obind_sm, specBnd (ixI_le h k) (ixI_le h (k + 1))]) (fun w k c => by
    unfold s0_spec_BendOf
    simp only [c, decide_false, cond_false])

theorem f6ints_ok {a b : Sl Int} (h : a.getD [] = b.getD []) (hl : (a.getD []).length ≤ 4294967296) : t_laws_f6ints a b = some true := by
  have lp := loopT_first (step := s0_laws_f6ints a b) (a.getD []) (fun _ _ => (none : Option Bool)) (.inl ()) .inr
    (fun k x hx => by
      have hk := get_lt hx
      have c : (k : Int) < ((a.getD []).length : Nat) := by omega
      unfold s0_laws_f6ints
      simp only [c, decide_true, cond_true, getI_nat hx, ← h, obind_sm, Bool.not_true, cond_false, wr_succ hk hl])
    (by
      unfold s0_laws_f6ints
      simp only [Int.lt_irrefl, decide_false, cond_false])
  rw [firstL_none (fun _ _ _ => rfl)] at lp
  unfold t_laws_f6ints
  rw [lp, ← h]
  simp

/-- The directions of a stroke. -/
theorem dirsOf_ok (s : Stroke) (hs : StB s) : ∃ q r n, t_impl_DirectionsOf s = some (q, n) ∧ t_spec_DirectionsOf s = some (r, n) ∧ q.getD [] = r.getD [] ∧ (q.getD []).length ≤ 100 ∧ (∀ x ∈ q.getD [], 0 ≤ x ∧ x ≤ 7) ∧
    ∃ b, t_impl_BendOf s = some (b, n) ∧ t_spec_BendOf s = some (b, n) ∧ (n = 0 → b = bsum (q.getD [])) := by
  cases h : vS (s.points.getD []) with
  | false =>
    refine ⟨none, none, 1, ?_, ?_, rfl, by simp, fun x hx => (by cases hx), 0, ?_, ?_, fun h => by cases h⟩
    · unfold t_impl_DirectionsOf
      rw [validStroke_vS s hs.le, h]
      rfl
    · unfold t_spec_DirectionsOf
      rw [l02Stroke_vS s hs.le, h]
      rfl
    · unfold t_impl_BendOf
      rw [validStroke_vS s hs.le, h]
      rfl
    · unfold t_spec_BendOf
      rw [l02Stroke_vS s hs.le, h]
      rfl
  | true =>
    have hv := vS_iff.1 h
    have n2 := hv.n2
    obtain ⟨q, e1, hq⟩ := implDirs_ok hv
    obtain ⟨r, e2, hr⟩ := specDirs_ok hv
    have dl := dirL_le (s.points.getD []) ((s.points.getD []).length - 1)
    rw [← hq] at dl
    have dl2 := dl
    rw [hq, ← hr] at dl2
    refine ⟨q, r, 0, ?_, ?_, by rw [hq, hr], by omega, dl.2, bsum (q.getD []), ?_, ?_, fun _ => rfl⟩
    · unfold t_impl_DirectionsOf
      simp only [validStroke_vS s hs.le, h, obind_sm, Bool.not_true, cond_false, e1]
    · unfold t_spec_DirectionsOf
      simp only [l02Stroke_vS s hs.le, h, obind_sm, Bool.not_true, cond_false, e2]
    · unfold t_impl_BendOf
      simp only [validStroke_vS s hs.le, h, obind_sm, Bool.not_true, cond_false, e1, implBend_loop dl.2 (by omega)]
    · unfold t_spec_BendOf
      simp only [l02Stroke_vS s hs.le, h, obind_sm, Bool.not_true, cond_false, e2, specBend_loop dl2.2 (by omega)]
      rw [hq, hr]

def dirR (dx dy : Int) : Int × Int := bif !within dx (-4095) 4095 || !within dy (-4095) 4095 then (0, 2) else bif decide (dx = 0) && decide (dy = 0) then (0, 6) else (dirn dx dy, 0)

theorem dirR_ok (dx dy : Int) : t_impl_DirectionOf dx dy = some (dirR dx dy) ∧ t_spec_DirectionOf dx dy = some (dirR dx dy) := by
  unfold t_impl_DirectionOf t_spec_DirectionOf dirR
  simp only [obind_sm]
  cases h1 : within dx (-4095) 4095 with
  | false => exact ⟨rfl, rfl⟩
  | true =>
    cases h2 : within dy (-4095) 4095 with
    | false => exact ⟨rfl, rfl⟩
    | true =>
      simp only [within, Bool.and_eq_true, decide_eq_true_eq] at h1 h2
      by_cases c : dx = 0 ∧ dy = 0
      · simp [c.1, c.2]
      · have d := dirs_eq h1 h2 c
        rw [d.1, d.2]
        cases h3 : decide (dx = 0) <;> cases h4 : decide (dy = 0) <;> first | exact ⟨rfl, rfl⟩ | exact absurd ⟨of_decide_eq_true h3, of_decide_eq_true h4⟩ c

theorem dr_dir (code : Sl UInt8) : ∃ x y, t_spec_DrawDirectionOf code = some (x, y) := by
  have hs : SK ⟨code, 0, 0⟩ 0 := ⟨by simp, by simp⟩
  obtain ⟨r1, s1, e1, k1, _, _, _⟩ := dr_pick hs (by omega) (n := 41) (by omega)
  obtain ⟨r2, s2, e2, k2, _, _, _⟩ := dr_pick k1 (by omega) (n := 41) (by omega)
  obtain ⟨r3, s3, e3, k3, _, _, _⟩ := dr_pick k2 (by omega) (n := 12) (by omega)
  obtain ⟨r4, s4, e4, k4, _⟩ := dr_among k3 (by omega) (l := [-4096, -4095, 4095, 4096]) (by simp) (by simp)
  obtain ⟨r5, s5, e5, k5, _⟩ := dr_among k3 (by omega) (l := [0, 408, 985, 2378]) (by simp) (by simp)
  obtain ⟨r6, s6, e6, k6, _⟩ := dr_among k5 (by omega) (l := [0, 169, 985, 408, 2378]) (by simp) (by simp)
  unfold t_spec_DrawDirectionOf
  simp only [e1, e2, e3, e4, e5, e6, obind_sm]
  cases decide (r3 = 0) with
  | true => exact ⟨_, _, rfl⟩
  | false =>
    cases decide (r3 = 1) with
    | true => exact ⟨_, _, rfl⟩
    | false =>
      cases decide (r3 = 2) with
      | true => exact ⟨_, _, rfl⟩
      | false => exact ⟨_, _, rfl⟩

theorem true_FnDirections (code : Sl UInt8) : t_laws_FnDirections code = some true := by
  unfold t_laws_FnDirections t_laws_f6big
  by_cases c0 : 4096 < (((code.getD []).length : Nat) : Int)
  · simp only [c0, decide_true, obind_sm, cond_true]
  have hs : SK ⟨code, 0, 0⟩ 0 := ⟨by simp, by simp⟩
  obtain ⟨dx, dy, D1⟩ := dr_dir code
  obtain ⟨s, s5, e5, k5, ss⟩ := dr_l05 hs (by omega)
  have D2 : t_spec_DrawDirectionsOf code = some s := by
    unfold t_spec_DrawDirectionsOf
    simp only [e5, obind_sm]
  obtain ⟨q, r, n, E1, E2, hqr, hl, hx, b, E3, E4, hb⟩ := dirsOf_ok s ss
  have F := f6ints_ok hqr (by omega)
  have tail : (bif !decide ((dirR dx dy).2 = 0) then
          some true
        else
          obind (t_impl_DirectionOf (wr (0 - dx)) (wr (0 - dy))) fun c70 =>
          obind (t_impl_DirectionOf (wr (0 - dy)) dx) fun c71 =>
          obind (t_impl_DirectionOf dx (wr (0 - dy))) fun c72 =>
          obind (bif decide (c70.2 = 0) then (some (decide (c71.2 = 0))) else some false) fun c74 =>
          obind (bif (bif decide (c70.2 = 0) then c74 else false) then (some (decide (c72.2 = 0))) else some false) fun c76 =>
          obind (bif (bif (bif decide (c70.2 = 0) then c74 else false) then c76 else false) then (some (decide (c70.1 = Int.tmod (wr ((dirR dx dy).1 + 4)) 8))) else some false) fun c78 =>
          obind (bif (bif (bif (bif decide (c70.2 = 0) then c74 else false) then c76 else false) then c78 else false) then (some (decide (c71.1 = Int.tmod (wr ((dirR dx dy).1 + 2)) 8))) else some false) fun c80 =>
          obind (bif (bif (bif (bif (bif decide (c70.2 = 0) then c74 else false) then c76 else false) then c78 else false) then c80 else false) then (some (decide (c72.1 = Int.tmod (wr (8 - (dirR dx dy).1)) 8))) else some false) fun c82 =>
          some (bif (bif (bif (bif (bif decide (c70.2 = 0) then c74 else false) then c76 else false) then c78 else false) then c80 else false) then c82 else false)) = some true := by
    by_cases z : (dirR dx dy).2 = 0
    · have facts : (-4095 ≤ dx ∧ dx ≤ 4095) ∧ (-4095 ≤ dy ∧ dy ≤ 4095) ∧ ¬ (dx = 0 ∧ dy = 0) := by
        unfold dirR at z
        cases h1 : within dx (-4095) 4095 with
        | false => rw [h1] at z; cases z
        | true =>
          cases h2 : within dy (-4095) 4095 with
          | false => rw [h1, h2] at z; cases z
          | true =>
            simp only [within, Bool.and_eq_true, decide_eq_true_eq] at h1 h2
            refine ⟨h1, h2, fun c => ?_⟩
            rw [c.1, c.2] at z
            simp [within] at z
      obtain ⟨h1, h2, h3⟩ := facts
      have val : ∀ x y : Int, -4095 ≤ x ∧ x ≤ 4095 → -4095 ≤ y ∧ y ≤ 4095 → ¬ (x = 0 ∧ y = 0) → dirR x y = (dirn x y, 0) := fun x y a1 a2 a3 => by
        have w1 : within x (-4095) 4095 = true := by simp only [within, Bool.and_eq_true, decide_eq_true_eq]; exact a1
        have w2 : within y (-4095) 4095 = true := by simp only [within, Bool.and_eq_true, decide_eq_true_eq]; exact a2
        have w3 : (decide (x = 0) && decide (y = 0)) = false := by
          cases h3 : decide (x = 0) <;> cases h4 : decide (y = 0) <;> first | rfl | exact absurd ⟨of_decide_eq_true h3, of_decide_eq_true h4⟩ a3
        unfold dirR
        rw [w1, w2, w3]
        rfl
      have w1 : wr (0 - dx) = -dx := by rw [wr_id (by omega) (by omega)]; omega
      have w2 : wr (0 - dy) = -dy := by rw [wr_id (by omega) (by omega)]; omega
      have v0 := val dx dy h1 h2 h3
      have v1 := val (-dx) (-dy) (by omega) (by omega) (by omega)
      have v2 := val (-dy) dx (by omega) (by omega) (by omega)
      have v3 := val dx (-dy) (by omega) (by omega) (by omega)
      have dl := dirn_le dx dy
      have w3 : wr (dirn dx dy + 4) = dirn dx dy + 4 := wr_id (by omega) (by omega)
      have w4 : wr (dirn dx dy + 2) = dirn dx dy + 2 := wr_id (by omega) (by omega)
      have w5 : wr (8 - dirn dx dy) = 8 - dirn dx dy := wr_id (by omega) (by omega)
      obtain ⟨l1, l2, l3⟩ := dirn_laws h3
      simp only [w1, w2, (dirR_ok _ _).1, v0, v1, v2, v3, w3, w4, w5, obind_sm, decide_true, cond_true, Bool.not_true, cond_false, l1, l2, l3]
    · simp only [z, decide_false, Bool.not_false, cond_true]
  simp only [c0, decide_false, obind_sm, cond_false, D1, D2, (dirR_ok dx dy).1, (dirR_ok dx dy).2, E1, E2, E3, E4, F, decide_true, Bool.not_true]
  by_cases n0 : n = 0
  · by_cases l0 : 0 < (((q.getD []).length : Nat) : Int)
    · have b0 := hb n0
      obtain ⟨m, em, e1, e2⟩ := bsum_mod hx ((q.getD []).length - 1)
      have g1 := get_ixI (L := q.getD []) (i := (q.getD []).length - 1) (by omega)
      have g2 := get_ixI (L := q.getD []) (i := 0) (by omega)
      have i1 := ixI_le hx ((q.getD []).length - 1)
      have i2 := ixI_le hx 0
      have w1 : wr ((((q.getD []).length : Nat) : Int) - 1) = (((q.getD []).length - 1 : Nat) : Int) := by rw [wr_id (by omega) (by omega)]; omega
      have bb : b = sumN (fun i => bnd (ixI (q.getD []) i) (ixI (q.getD []) (i + 1))) ((q.getD []).length - 1) := b0
      rw [← bb] at em e1 e2
      have w2 : wr (b - ixI (q.getD []) ((q.getD []).length - 1)) = b - ixI (q.getD []) ((q.getD []).length - 1) := wr_id (by omega) (by omega)
      have w3 : wr (b - ixI (q.getD []) ((q.getD []).length - 1) + ixI (q.getD []) 0) = 8 * m := by rw [wr_id (by omega) (by omega)]; omega
      have g2' : getI (q.getD []) 0 = some (ixI (q.getD []) 0) := g2
      have t0 : Int.tmod (8 * m) 8 = 0 := Int.mul_tmod_right 8 m
      simp only [n0, l0, decide_true, cond_true, obind_sm, w1, g1, g2', w2, w3, t0, Bool.not_true, cond_false]
      exact tail
    · simp only [n0, l0, decide_true, decide_false, cond_true, obind_sm, cond_false]
      exact tail
  · simp only [n0, decide_false, cond_false, obind_sm]
    exact tail

theorem ok_laws_FnDirections : PureOK Try.prog n_laws_FnDirections (G1 (fun a : Sl UInt8 => Wt.big a) fun _ => bv true) := lawC1 tt_laws_FnDirections fun a _ => true_FnDirections a

theorem law_FnDirections (a : Sl UInt8) (ha : Row.fine a) : G1 (fun a : Sl UInt8 => Wt.big a) (fun _ => bv true) [enc a] = some (bv true) := G1_enc _ _ a (by simp [Wt.fb a ha])

theorem isC_5 {cs : List AV} (h : IsC Try.prog 5 cs) : ∃ x : UInt8, cs = Row.cells x ∧ Row.fine x := by
  obtain ⟨n, rfl, hn⟩ := IsC.intE Try.underlying5 h
  exact byte_of hn
theorem isC_22 {cs : List AV} (h : IsC Try.prog 22 cs) : ∃ x : (Sl UInt8), cs = Row.cells x ∧ Row.fine x := by
  rcases IsC.sliceE Try.underlying22 h with rfl | ⟨rows, rfl, h1, h2⟩
  · exact ⟨none, rfl, Sl.fineNil⟩
  · exact Sl.isC (by kernel_rfl) h1 fun row hr => isC_5 (h2 row hr)
theorem own : ownKnob Try.prog.godebug = none := by kernel_rfl
theorem laidOut : laidOutB Try.prog = true := by kernel_rfl

set_option maxRecDepth 100000 in
theorem holds : Rows.FnDirectionsSaid :=
  OpenClaim.holds_of_wide 6 Try.f6 rfl rfl rfl rfl rfl rfl rfl ⟨rfl, rfl, rfl, rfl, rfl⟩ rfl rfl rfl rfl rfl (by kernel_rfl) Try.func6 (by kernel_rfl)
    (of_decide_eq_true (by kernel_rfl)) (by unfold Func.isWrapper; rw [if_neg (by decide +kernel)]; exact ⟨rfl, rfl⟩)
    (fun os started H enc _ => law_lifted (C := Try.checked) (s := Rows.fnDirectionsSpec) own started (by kernel_rfl) Try.func6
      (ChangeSpec.witness6 (enc := enc) (C := Try.checked) false ⟨#[], #[.slice none 0 0], []⟩ 8 (by kernel_rfl) (by kernel_rfl) (by kernel_rfl) (by kernel_rfl))
      laidOut rfl (tb := 4) rfl Try.underlying4 (ts := [22, 5]) (by kernel_rfl)
      (fun ds h => by match ds, h with | [d0], _ => rfl)
      hb_laws_FnDirections ok_laws_FnDirections (by
    intro l h
    obtain ⟨a0, l0, rfl, g0, k0⟩ := h
    cases k0
    obtain ⟨b0, e0, w0⟩ := isC_22 (isV_one (by kernel_rfl) g0)
    obtain rfl := one_enc e0
    exact law_FnDirections b0 w0))
#print axioms holds
end Go.Proofs.Ytdklppipegepdaa
