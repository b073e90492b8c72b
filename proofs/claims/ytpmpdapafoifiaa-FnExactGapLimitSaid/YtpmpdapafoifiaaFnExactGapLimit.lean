/-
  The law FnExactGapLimit holds, for all arguments: it returns true, and its arguments read behind the call as before. No condition.
-/
import Derived.Test.YtpmpdapafoifiaaFnExactGapLimitGen
import Derived.Test.YtpmpdapafoifiaaRows
namespace Go.Proofs.Ytpmpdapafoifiaa
open Go Go.Eng Go.Eng.Cod
set_option maxRecDepth 100000
set_option linter.unusedVariables false
set_option linter.unusedSimpArgs false

theorem nil_ok : EnvOK Try.prog (envL []) := E0

def within (a b c : Int) : Bool := decide (b ≤ a) && decide (a ≤ c)

theorem ok_impl_within : PureOK Try.prog n_impl_within (T3 within) := pureT3 nil_ok mixed hb_impl_within fun a b c => by
  simp [e_impl_within, within]

theorem ok_spec_l00In : PureOK Try.prog n_spec_l00In (T3 within) := pureT3 nil_ok mixed hb_spec_l00In fun a b c => by
  simp [e_spec_l00In, within]

def absI (a : Int) : Int := bif decide (a < 0) then wr (-a) else a

theorem ok_impl_abs : PureOK Try.prog n_impl_abs (T1 absI) := pureT1 nil_ok mixed hb_impl_abs fun a => by
  simp [e_impl_abs, absI]

theorem ok_spec_l05Size : PureOK Try.prog n_spec_l05Size (T1 absI) := pureT1 nil_ok mixed hb_spec_l05Size fun a => by
  simp [e_spec_l05Size, absI]

theorem gen_slices_Sort_int64_int64 : GenOK Try.prog n_slices_Sort_int64_int64 sortF :=
  gen_sortInts hb_slices_Sort_int64_int64 (fun blk off cap zs w a b c => Go.Proofs.AnyM.slices_Sort_int laySort blk off cap zs w a b c) (fun p cap w => Go.Proofs.AnyM.slices_Sort_int_none laySort p cap w)

def s0_laws_toInt64S (a_ : Sl Int) : ((Sl Int) × Int) → Option (Sum ((Sl Int) × Int) (Sl Int)) := fun (w6, w9) =>
  bif decide (w9 < (((a_.getD []).length : Nat) : Int)) then
    obind (getI (a_.getD []) w9) fun a15 =>
    obind (getI (w6.getD []) w9) fun a19 =>
    some (.inl ((setS w6 w9 a15), wr (w9 + 1)))
  else
    some (.inr w6)
def t_laws_toInt64S (a_ : Sl Int) : Option (Sl Int) :=
  obind (makeO 0 (((a_.getD []).length : Nat) : Int)) fun l5 =>
  obind (loopT (s0_laws_toInt64S a_) ((some l5), 0)) fun q12 =>
  some q12

theorem tl0_laws_toInt64S (env : Nat → Contract) {B : Base}  (a_ : Sl Int) (x1 : AV)  {st : (Sl Int) × Int} {tm : TM} {h : Heap} (R : (fun (st : (Sl Int) × Int) tm h7 => match st with | (w6, w9) => tm = [Sl.enc a_, und, nilS, x1, iv w9, Sl.enc a_, iv (((a_.getD []).length : Nat) : Int), x1, AV.top, AV.top, AV.top, AV.top, AV.top, AV.top, AV.top, AV.top, AV.top, AV.top, AV.top, AV.top, AV.top, und] ∧ Hold B h7 [(x1, obS (w6 : Sl Int))]) st tm h) : Sim (loopP hm0_laws_toInt64S xm0_laws_toInt64S (lb0_laws_toInt64S env) tm h) (loopT (s0_laws_toInt64S a_) st) (fun (q : Sl Int) (r : Res) => match q with | q12 => ∃ (q13 : Int) (h10 : Heap), r = (.exit 0, [Sl.enc a_, und, nilS, x1, iv q13, Sl.enc a_, iv (((a_.getD []).length : Nat) : Int), x1, AV.top, AV.top, AV.top, AV.top, AV.top, AV.top, AV.top, AV.top, AV.top, AV.top, AV.top, AV.top, AV.top, und], h10) ∧ Hold B h10 [(x1, obS (q12 : Sl Int))]) := by
  refine loop_sim (Rel := fun (st : (Sl Int) × Int) tm h7 => match st with | (w6, w9) => tm = [Sl.enc a_, und, nilS, x1, iv w9, Sl.enc a_, iv (((a_.getD []).length : Nat) : Int), x1, AV.top, AV.top, AV.top, AV.top, AV.top, AV.top, AV.top, AV.top, AV.top, AV.top, AV.top, AV.top, AV.top, und] ∧ Hold B h7 [(x1, obS (w6 : Sl Int))]) (fun st tm h7 R => ?_) R
  obtain ⟨w6, w9⟩ := st
  obtain ⟨rfl, O8⟩ := R
  rw [e_lb0_laws_toInt64S]
  unfold s0_laws_toInt64S
  dsimp only
  refine sim_let (v := iv (((a_.getD []).length : Nat) : Int)) (Tab.enc h7 a_).len ?_
  refine sim_let (v := bv (decide (w9 < (((a_.getD []).length : Nat) : Int)))) (aBin_lss _ _) ?_
  refine sim_cond (fun c14 => ?_) (fun c14 => ?_)
  · refine sim_get (Tab.enc h7 a_) (fun m16 a15 hi17 hm18 => ?_)
    refine sim_let (v := iv a15) ((Tab.enc h7 a_).ld hm18 false 1 0) ?_
    refine sim_get (O8.tab (A := Int) (s := w6) 0 rfl) (fun m20 a19 hi21 hm22 => ?_)
    refine sim_set (A := Int) O8 0 a15 rfl hi21 hm22 rfl (by simp) (by first | rfl | simp) (by first | rfl | simp [splice]) (fun h23 O24 => ?_)
    replace O24 : Hold B h23 [(x1, obS ((setS w6 w9 a15) : Sl Int))] := O24
    refine sim_let (v := iv (wr (w9 + 1))) (aBin_add _ _) ?_
    exact sim_ret ⟨rfl, rfl, O24⟩
  · exact sim_ret ⟨nofun, _, _, rfl, O8⟩
theorem ts_laws_toInt64S (env : Nat → Contract)  (a_ : Sl Int) : Sim (denFn Try.prog env n_laws_toInt64S [Sl.enc a_] []) (t_laws_toInt64S a_) fun c p => release p.2 depth p.1 = some ((fun c : (Sl Int) => rS c) c) := by
  have O := Hold.nil []
  generalize hB : (⟨[], []⟩ : Base) = B at O
  clear hB
  rw [e_laws_toInt64S]
  unfold t_laws_toInt64S
  refine sim_let (v := iv (((a_.getD []).length : Nat) : Int)) (Tab.enc [] a_).len ?_
  refine sim_make (A := Int) O 0 rfl (by decide) (fun l5 x1 h2 O3 => ?_)
  replace O3 : Hold B h2 [(x1, obS ((some l5) : Sl Int))] := O3
  refine sim_bind ((tl0_laws_toInt64S env a_ x1) ⟨rfl, O3⟩) (fun qq28 r hq => ?_)
  revert hq
  revert qq28
  intro q12 hq
  obtain ⟨q13, h10, rfl, O11⟩ := hq
  rw [e_lk0x0_laws_toInt64S]
  exact sim_ret (O11.rel (A := Int) (s := q12) 0 rfl)
theorem tt_laws_toInt64S : PureOK Try.prog n_laws_toInt64S (C1 (fun c : (Sl Int) => rS c) t_laws_toInt64S) := pureC1 E0 mixed hb_laws_toInt64S fun a_ => ts_laws_toInt64S _  a_

def t_spec_l19Gap (gap_ : Int) : Option Bool :=
  obind (some (within gap_ 0 4095)) fun c1 =>
  some c1

theorem ts_spec_l19Gap (env : Nat → Contract) (he_spec_l00In : env n_spec_l00In = .pure (T3 within)) (gap_ : Int) : Sim (denFn Try.prog env n_spec_l19Gap [iv gap_] []) (t_spec_l19Gap gap_) fun c p => release p.2 depth p.1 = some ((fun c : Bool => enc c) c) := by
  have O := Hold.nil []
  generalize hB : (⟨[], []⟩ : Base) = B at O
  clear hB
  rw [e_spec_l19Gap]
  unfold t_spec_l19Gap
  refine sim_callV3 (t := within) he_spec_l00In (snapD_int _ _) (snapD_int _ _) (snapD_int _ _) (fun c1 => ?_)
  exact sim_ret (release_plain (by rfl) _)
theorem tt_spec_l19Gap : PureOK Try.prog n_spec_l19Gap (C1 (fun c : Bool => enc c) t_spec_l19Gap) := pureC1 (Econs ok_spec_l00In E0) mixed hb_spec_l19Gap fun gap_ => ts_spec_l19Gap _ (by simp [envL]) gap_

def t_spec_l00Own (list_ : Sl Int) : Option (Sl Int) :=
  obind (appO (some ([] : List Int)) (list_.getD [])) fun _ =>
  some (appS (some ([] : List Int)) (list_.getD []))

theorem ts_spec_l00Own (env : Nat → Contract)  (list_ : Sl Int) : Sim (denFn Try.prog env n_spec_l00Own [Sl.enc list_] []) (t_spec_l00Own list_) fun c p => release p.2 depth p.1 = some ((fun c : (Sl Int) => rS c) c) := by
  have O := Hold.nil []
  generalize hB : (⟨[], []⟩ : Base) = B at O
  clear hB
  rw [e_spec_l00Own]
  unfold t_spec_l00Own
  refine sim_build (A := Int) O ([] : List Int) rfl (by first | rfl | simp [aFillRows, zrows]) rfl (fun x1 h2 O3 => ?_)
  replace O3 : Hold B h2 [(x1, obS ((some ([] : List Int)) : Sl Int))] := O3
  refine sim_append (A := Int) (s := (some ([] : List Int))) O3 0 (list_.getD []) rfl (src_enc _ _) (by decide) (fun x6 h7 O8 => ?_)
  replace O8 : Hold B h7 [(x6, obS ((appS (some ([] : List Int)) (list_.getD [])) : Sl Int))] := O8
  exact sim_ret (O8.rel (A := Int) (s := (appS (some ([] : List Int)) (list_.getD []))) 0 rfl)
theorem tt_spec_l00Own : PureOK Try.prog n_spec_l00Own (C1 (fun c : (Sl Int) => rS c) t_spec_l00Own) := pureC1 E0 mixed hb_spec_l00Own fun list_ => ts_spec_l00Own _  list_

def s0_spec_l19Spread (list_ : Sl Int) : (Int × Int) → Option (Sum (Int × Int) Int) := fun (w3, w4) =>
  bif decide (w4 < (((list_.getD []).length : Nat) : Int)) then
    obind (getI (list_.getD []) w4) fun a10 =>
    obind (getI (list_.getD []) (wr (Int.tdiv (wr ((((list_.getD []).length : Nat) : Int) - 1)) 2))) fun a14 =>
    obind (some (absI (wr (a10 - a14)))) fun c18 =>
    some (.inl (wr (w3 + c18), wr (w4 + 1)))
  else
    some (.inr w3)
def t_spec_l19Spread (list_ : Sl Int) : Option Int :=
  obind (loopT (s0_spec_l19Spread list_) (0, 0)) fun q7 =>
  some q7

theorem tl0_spec_l19Spread (env : Nat → Contract) {B : Base} (he_spec_l05Size : env n_spec_l05Size = .pure (T1 absI)) (list_ : Sl Int)  {st : Int × Int} {tm : TM} {h : Heap} (R : (fun (st : Int × Int) tm h1 => match st with | (w3, w4) => tm = [Sl.enc list_, und, iv 0, iv w3, iv w4, AV.top, AV.top, AV.top, AV.top, AV.top, AV.top, AV.top, AV.top, AV.top, AV.top, AV.top, AV.top, AV.top, AV.top, AV.top, AV.top, AV.top, AV.top, AV.top, AV.top, AV.top, und] ∧ Hold B h1 []) st tm h) : Sim (loopP hm0_spec_l19Spread xm0_spec_l19Spread (lb0_spec_l19Spread env) tm h) (loopT (s0_spec_l19Spread list_) st) (fun (q : Int) (r : Res) => match q with | q7 => ∃ (q8 : Int) (h5 : Heap), r = (.exit 0, [Sl.enc list_, und, iv 0, iv q7, iv q8, AV.top, AV.top, AV.top, AV.top, AV.top, AV.top, AV.top, AV.top, AV.top, AV.top, AV.top, AV.top, AV.top, AV.top, AV.top, AV.top, AV.top, AV.top, AV.top, AV.top, AV.top, und], h5) ∧ Hold B h5 []) := by
  refine loop_sim (Rel := fun (st : Int × Int) tm h1 => match st with | (w3, w4) => tm = [Sl.enc list_, und, iv 0, iv w3, iv w4, AV.top, AV.top, AV.top, AV.top, AV.top, AV.top, AV.top, AV.top, AV.top, AV.top, AV.top, AV.top, AV.top, AV.top, AV.top, AV.top, AV.top, AV.top, AV.top, AV.top, AV.top, und] ∧ Hold B h1 []) (fun st tm h1 R => ?_) R
  obtain ⟨w3, w4⟩ := st
  obtain ⟨rfl, O2⟩ := R
  rw [e_lb0_spec_l19Spread]
  unfold s0_spec_l19Spread
  dsimp only
  refine sim_let (v := iv (((list_.getD []).length : Nat) : Int)) (Tab.enc h1 list_).len ?_
  refine sim_let (v := bv (decide (w4 < (((list_.getD []).length : Nat) : Int)))) (aBin_lss _ _) ?_
  refine sim_cond (fun c9 => ?_) (fun c9 => ?_)
  · refine sim_get (Tab.enc h1 list_) (fun m11 a10 hi12 hm13 => ?_)
    refine sim_let (v := iv a10) ((Tab.enc h1 list_).ld hm13 false 1 0) ?_
    refine sim_let (v := iv (((list_.getD []).length : Nat) : Int)) (Tab.enc h1 list_).len ?_
    refine sim_let (v := iv (wr ((((list_.getD []).length : Nat) : Int) - 1))) (aBin_sub _ _) ?_
    refine sim_let (v := iv (wr (Int.tdiv (wr ((((list_.getD []).length : Nat) : Int) - 1)) 2))) (aBin_quo _ _ (by decide)) ?_
    refine sim_get (Tab.enc h1 list_) (fun m15 a14 hi16 hm17 => ?_)
    refine sim_let (v := iv a14) ((Tab.enc h1 list_).ld hm17 false 1 0) ?_
    refine sim_let (v := iv (wr (a10 - a14))) (aBin_sub _ _) ?_
    refine sim_callVQ1 (t := absI) he_spec_l05Size (snapD_int _ _) (fun c18 => ?_)
    refine sim_let (v := iv (wr (w3 + c18))) (aBin_add _ _) ?_
    refine sim_let (v := iv (wr (w4 + 1))) (aBin_add _ _) ?_
    exact sim_ret ⟨rfl, rfl, O2⟩
  · exact sim_ret ⟨nofun, _, _, rfl, O2⟩
theorem ts_spec_l19Spread (env : Nat → Contract) (he_spec_l05Size : env n_spec_l05Size = .pure (T1 absI)) (list_ : Sl Int) : Sim (denFn Try.prog env n_spec_l19Spread [Sl.enc list_] []) (t_spec_l19Spread list_) fun c p => release p.2 depth p.1 = some ((fun c : Int => enc c) c) := by
  have O := Hold.nil []
  generalize hB : (⟨[], []⟩ : Base) = B at O
  clear hB
  rw [e_spec_l19Spread]
  unfold t_spec_l19Spread
  refine sim_bind ((tl0_spec_l19Spread env he_spec_l05Size list_) ⟨rfl, O⟩) (fun qq22 r hq => ?_)
  revert hq
  revert qq22
  intro q7 hq
  obtain ⟨q8, h5, rfl, O6⟩ := hq
  rw [e_lk0x0_spec_l19Spread]
  exact sim_ret (release_plain (by rfl) _)
theorem tt_spec_l19Spread : PureOK Try.prog n_spec_l19Spread (C1 (fun c : Int => enc c) t_spec_l19Spread) := pureC1 (Econs ok_spec_l05Size E0) mixed hb_spec_l19Spread fun list_ => ts_spec_l19Spread _ (by simp [envL]) list_

def s2_spec_GapLimit (q13 : Sl Int) : (Int × Int × Int) → Option (Sum (Int × Int × Int) Int) := fun (w22, w23, w24) =>
  bif decide (w24 < (((q13.getD []).length : Nat) : Int)) then
    obind (subS q13 none (some w24)) fun s38 =>
    obind (t_spec_l19Spread s38) fun c40 =>
    obind (subS q13 (some w24) none) fun s42 =>
    obind (t_spec_l19Spread s42) fun c44 =>
    obind (getI (q13.getD []) (wr (w24 - 1))) fun a45 =>
    obind (getI (q13.getD []) w24) fun a49 =>
    obind (bif decide (a45 < a49) then (some (decide (w22 < 0))) else some false) fun c54 =>
    obind (bif ((decide (a45 < a49)) && !c54) then (some (decide ((wr (c40 + c44)) < w23))) else some false) fun c58 =>
    obind (bif decide (a45 < a49) then (some (bif c54 then true else c58)) else some false) fun c62 =>
    bif (bif decide (a45 < a49) then c62 else false) then
      some (.inl (w24, wr (c40 + c44), wr (w24 + 1)))
    else
      some (.inl (w22, w23, wr (w24 + 1)))
  else
    some (.inr w22)
def s1_spec_GapLimit (gaps_ : Sl Int) (w6 : Sl Int) (w9 : Int) : Int → Option (Sum Int Int) := fun w88 =>
  obind (bif decide (0 < w88) then (obind (getI (w6.getD []) (wr (w88 - 1))) fun a124 => obind (getI (gaps_.getD []) w9) fun a128 => some (decide (a128 < a124))) else some false) fun c132 =>
  bif (bif decide (0 < w88) then c132 else false) then
    some (.inl (wr (w88 - 1)))
  else
    some (.inr w88)
def s0_spec_GapLimit (gaps_ : Sl Int) : ((Sl Int) × Int) → Option (Sum ((Sl Int) × Int) (Sum (Sl Int) (Int × Int))) := fun (w6, w9) =>
  bif decide (w9 < (((gaps_.getD []).length : Nat) : Int)) then
    obind (getI (gaps_.getD []) w9) fun a79 =>
    obind (t_spec_l19Gap a79) fun c83 =>
    bif !c83 then
      some (.inr (.inr (0, 1)))
    else
      obind (loopT (s1_spec_GapLimit gaps_ w6 w9) (((w6.getD []).length : Nat) : Int)) fun q91 =>
      obind (subS w6 none (some q91)) fun s93 =>
      obind (t_spec_l00Own s93) fun c95 =>
      obind (getI (gaps_.getD []) w9) fun a100 =>
      obind (appO c95 ([a100] : List Int)) fun _ =>
      obind (subS w6 (some q91) none) fun s115 =>
      obind (appO (appS c95 ([a100] : List Int)) (s115.getD [])) fun _ =>
      some (.inl ((appS (appS c95 ([a100] : List Int)) (s115.getD [])), wr (w9 + 1)))
  else
    some (.inr (.inl w6))
def t_spec_GapLimit (gaps_ : Sl Int) : Option (Int × Int) :=
  obind (loopT (s0_spec_GapLimit gaps_) ((some ([] : List Int)), 0)) fun qq149 => match qq149 with
  | (.inl q13) =>
      bif decide (60 < (((gaps_.getD []).length : Nat) : Int)) then
        some (0, 5)
      else
        obind (loopT (s2_spec_GapLimit q13) ((-1), 0, 1)) fun q27 =>
        bif decide (q27 < 0) then
          some (0, 6)
        else
          obind (getI (q13.getD []) (wr (q27 - 1))) fun a32 =>
          some (a32, 0)
  | (.inr (q73, q74)) =>
      some (q73, q74)

theorem tl2_spec_GapLimit (env : Nat → Contract) {B : Base} (he_spec_l00Own : env n_spec_l00Own = .pure (C1 (fun c : (Sl Int) => rS c) t_spec_l00Own)) (he_spec_l19Gap : env n_spec_l19Gap = .pure (C1 (fun c : Bool => enc c) t_spec_l19Gap)) (he_spec_l19Spread : env n_spec_l19Spread = .pure (C1 (fun c : Int => enc c) t_spec_l19Spread)) (gaps_ : Sl Int) (x1 : AV) (z12 : AV) (q13 : Sl Int) (z14 : AV) (z15 : AV) (q16 : Int) (z17 : AV) (z18 : AV)  {st : Int × Int × Int} {tm : TM} {h : Heap} (R : (fun (st : Int × Int × Int) tm h20 => match st with | (w22, w23, w24) => tm = ((Sl.enc gaps_) :: und :: z14 :: z15 :: z12 :: (iv q16) :: z17 :: z18 :: (iv w22) :: (iv w23) :: (iv w24) :: AV.top :: x1 :: AV.top :: AV.top :: AV.top :: AV.top :: AV.top :: AV.top :: AV.top :: AV.top :: AV.top :: AV.top :: AV.top :: AV.top :: AV.top :: AV.top :: AV.top :: AV.top :: AV.top :: AV.top :: AV.top :: AV.top :: AV.top :: AV.top :: AV.top :: AV.top :: AV.top :: AV.top :: AV.top :: AV.top :: AV.top :: AV.top :: AV.top :: AV.top :: AV.top :: AV.top :: AV.top :: AV.top :: AV.top :: AV.top :: AV.top :: AV.top :: AV.top :: AV.top :: AV.top :: AV.top :: AV.top :: (Sl.enc gaps_) :: (iv (((gaps_.getD []).length : Nat) : Int)) :: (bv (decide (60 < (((gaps_.getD []).length : Nat) : Int)))) :: AV.top :: AV.top :: AV.top :: AV.top :: AV.top :: AV.top :: AV.top :: AV.top :: AV.top :: AV.top :: AV.top :: AV.top :: AV.top :: AV.top :: AV.top :: AV.top :: AV.top :: AV.top :: AV.top :: AV.top :: AV.top :: AV.top :: AV.top :: AV.top :: AV.top :: AV.top :: AV.top :: AV.top :: AV.top :: AV.top :: AV.top :: AV.top :: AV.top :: AV.top :: AV.top :: AV.top :: und :: und :: und :: und :: und :: und :: und :: []) ∧ Hold B h20 [(z12, obS (q13 : Sl Int))]) st tm h) : Sim (loopP hm2_spec_GapLimit xm2_spec_GapLimit (lb2_spec_GapLimit env) tm h) (loopT (s2_spec_GapLimit q13) st) (fun (q : Int) (r : Res) => match q with | q27 => ∃ (q28 : Int) (q29 : Int) (z30 : AV) (h25 : Heap), r = (.exit 4, ((Sl.enc gaps_) :: und :: z14 :: z15 :: z12 :: (iv q16) :: z17 :: z18 :: (iv q27) :: (iv q28) :: (iv q29) :: z30 :: x1 :: AV.top :: AV.top :: AV.top :: AV.top :: AV.top :: AV.top :: AV.top :: AV.top :: AV.top :: AV.top :: AV.top :: AV.top :: AV.top :: AV.top :: AV.top :: AV.top :: AV.top :: AV.top :: AV.top :: AV.top :: AV.top :: AV.top :: AV.top :: AV.top :: AV.top :: AV.top :: AV.top :: AV.top :: AV.top :: AV.top :: AV.top :: AV.top :: AV.top :: AV.top :: AV.top :: AV.top :: AV.top :: AV.top :: AV.top :: AV.top :: AV.top :: AV.top :: AV.top :: AV.top :: AV.top :: (Sl.enc gaps_) :: (iv (((gaps_.getD []).length : Nat) : Int)) :: (bv (decide (60 < (((gaps_.getD []).length : Nat) : Int)))) :: AV.top :: AV.top :: AV.top :: AV.top :: AV.top :: AV.top :: AV.top :: AV.top :: AV.top :: AV.top :: AV.top :: AV.top :: AV.top :: AV.top :: AV.top :: AV.top :: AV.top :: AV.top :: AV.top :: AV.top :: AV.top :: AV.top :: AV.top :: AV.top :: AV.top :: AV.top :: AV.top :: AV.top :: AV.top :: AV.top :: AV.top :: AV.top :: AV.top :: AV.top :: AV.top :: AV.top :: und :: und :: und :: und :: und :: und :: und :: []), h25) ∧ Hold B h25 [(z12, obS (q13 : Sl Int))]) := by
  refine loop_sim (Rel := fun (st : Int × Int × Int) tm h20 => match st with | (w22, w23, w24) => tm = ((Sl.enc gaps_) :: und :: z14 :: z15 :: z12 :: (iv q16) :: z17 :: z18 :: (iv w22) :: (iv w23) :: (iv w24) :: AV.top :: x1 :: AV.top :: AV.top :: AV.top :: AV.top :: AV.top :: AV.top :: AV.top :: AV.top :: AV.top :: AV.top :: AV.top :: AV.top :: AV.top :: AV.top :: AV.top :: AV.top :: AV.top :: AV.top :: AV.top :: AV.top :: AV.top :: AV.top :: AV.top :: AV.top :: AV.top :: AV.top :: AV.top :: AV.top :: AV.top :: AV.top :: AV.top :: AV.top :: AV.top :: AV.top :: AV.top :: AV.top :: AV.top :: AV.top :: AV.top :: AV.top :: AV.top :: AV.top :: AV.top :: AV.top :: AV.top :: (Sl.enc gaps_) :: (iv (((gaps_.getD []).length : Nat) : Int)) :: (bv (decide (60 < (((gaps_.getD []).length : Nat) : Int)))) :: AV.top :: AV.top :: AV.top :: AV.top :: AV.top :: AV.top :: AV.top :: AV.top :: AV.top :: AV.top :: AV.top :: AV.top :: AV.top :: AV.top :: AV.top :: AV.top :: AV.top :: AV.top :: AV.top :: AV.top :: AV.top :: AV.top :: AV.top :: AV.top :: AV.top :: AV.top :: AV.top :: AV.top :: AV.top :: AV.top :: AV.top :: AV.top :: AV.top :: AV.top :: AV.top :: AV.top :: und :: und :: und :: und :: und :: und :: und :: []) ∧ Hold B h20 [(z12, obS (q13 : Sl Int))]) (fun st tm h20 R => ?_) R
  obtain ⟨w22, w23, w24⟩ := st
  obtain ⟨rfl, O21⟩ := R
  rw [e_lb2_spec_GapLimit]
  unfold s2_spec_GapLimit
  dsimp only
  refine sim_let (v := iv (((q13.getD []).length : Nat) : Int)) (O21.tab (A := Int) (s := q13) 0 rfl).len ?_
  refine sim_let (v := bv (decide (w24 < (((q13.getD []).length : Nat) : Int)))) (aBin_lss _ _) ?_
  refine sim_cond (fun c36 => ?_) (fun c36 => ?_)
  · refine sim_subO01 (A := Int) (s := q13) O21 0 rfl (fun x37 s38 hq39 => ?_)
    refine sim_callQ1 he_spec_l19Spread (hq39) (fun c40 => ?_)
    refine sim_let2 (hand_plain (by rfl) _ _) ?_
    refine sim_subO10 (A := Int) (s := q13) O21 0 rfl (fun x41 s42 hq43 => ?_)
    refine sim_callQ1 he_spec_l19Spread (hq43) (fun c44 => ?_)
    refine sim_let2 (hand_plain (by rfl) _ _) ?_
    refine sim_let (v := iv (wr (c40 + c44))) (aBin_add _ _) ?_
    refine sim_let (v := iv (wr (w24 - 1))) (aBin_sub _ _) ?_
    refine sim_get (O21.tab (A := Int) (s := q13) 0 rfl) (fun m46 a45 hi47 hm48 => ?_)
    refine sim_let (v := iv a45) ((O21.tab (A := Int) (s := q13) 0 rfl).ld hm48 false 1 0) ?_
    refine sim_get (O21.tab (A := Int) (s := q13) 0 rfl) (fun m50 a49 hi51 hm52 => ?_)
    refine sim_let (v := iv a49) ((O21.tab (A := Int) (s := q13) 0 rfl).ld hm52 false 1 0) ?_
    refine sim_let (v := bv (decide (a45 < a49))) (aBin_lss _ _) ?_
    refine sim_g3T (e := bv) (fun hb53 => ?_) (fun y55 y56 c54 => ?_)
    · refine sim_o0 ?_
      refine sim_o1 ?_
      refine sim_let (v := bv (decide (w22 < 0))) (aBin_lss _ _) ?_
      refine sim_o0 ?_
      exact sim_ret rfl
    · simp only [gv_TF]
      refine sim_g3T (e := bv) (fun hb57 => ?_) (fun y59 y60 c58 => ?_)
      · refine sim_o0 ?_
        refine sim_o0 ?_
        refine sim_let (v := bv (decide ((wr (c40 + c44)) < w23))) (aBin_lss _ _) ?_
        exact sim_ret rfl
      · refine sim_guardT (e := bv) (fun hb61 => ?_) (fun c62 => ?_)
        · simp only [hb61, cond_true, cond_false, Bool.not_true, Bool.not_false, Bool.true_and, Bool.and_true, Bool.false_and, Bool.not_not]
          refine sim_let (v := bv (bif c54 then true else c58)) (pick_nb _ _ _) ?_
          exact sim_ret rfl
        · refine sim_let (v := bv (bif decide (a45 < a49) then c62 else false)) (pick_b _ _ _) ?_
          refine sim_cond (fun c63 => ?_) (fun c63 => ?_)
          · refine sim_let (v := iv (wr (w24 + 1))) (aBin_add _ _) ?_
            exact sim_ret ⟨rfl, rfl, O21⟩
          · refine sim_let (v := iv (wr (w24 + 1))) (aBin_add _ _) ?_
            exact sim_ret ⟨rfl, rfl, O21⟩
  · exact sim_ret ⟨nofun, _, _, _, _, rfl, O21⟩
theorem tl1_spec_GapLimit (env : Nat → Contract) {B : Base} (he_spec_l00Own : env n_spec_l00Own = .pure (C1 (fun c : (Sl Int) => rS c) t_spec_l00Own)) (he_spec_l19Gap : env n_spec_l19Gap = .pure (C1 (fun c : Bool => enc c) t_spec_l19Gap)) (he_spec_l19Spread : env n_spec_l19Spread = .pure (C1 (fun c : Int => enc c) t_spec_l19Spread)) (gaps_ : Sl Int) (x1 : AV) (z5 : AV) (w6 : Sl Int) (w9 : Int) (a79 : Int) (m80 : Nat) (c83 : Bool)  {st : Int} {tm : TM} {h : Heap} (R : (fun (st : Int) tm h86 => match st with | w88 => tm = ((Sl.enc gaps_) :: und :: AV.top :: AV.top :: z5 :: (iv w9) :: (iv w88) :: AV.top :: und :: und :: und :: und :: x1 :: (iv w9) :: (Sl.enc gaps_) :: (iv (((gaps_.getD []).length : Nat) : Int)) :: (bv (decide (w9 < (((gaps_.getD []).length : Nat) : Int)))) :: AV.top :: AV.top :: (Sl.enc gaps_) :: (iv w9) :: (elp (Sl.enc gaps_) m80 0) :: (iv a79) :: (bv c83) :: (bv (!c83)) :: z5 :: (iv (((w6.getD []).length : Nat) : Int)) :: AV.top :: AV.top :: AV.top :: AV.top :: AV.top :: AV.top :: AV.top :: AV.top :: AV.top :: AV.top :: AV.top :: AV.top :: AV.top :: AV.top :: AV.top :: AV.top :: AV.top :: AV.top :: AV.top :: AV.top :: AV.top :: AV.top :: AV.top :: AV.top :: AV.top :: AV.top :: AV.top :: AV.top :: AV.top :: AV.top :: AV.top :: und :: und :: und :: und :: und :: und :: und :: und :: und :: und :: und :: und :: und :: und :: und :: und :: und :: und :: und :: und :: und :: und :: und :: und :: und :: und :: und :: und :: und :: und :: und :: und :: und :: und :: und :: und :: und :: und :: und :: und :: und :: und :: und :: und :: und :: und :: []) ∧ Hold B h86 [(z5, obS (w6 : Sl Int))]) st tm h) : Sim (loopP hm1_spec_GapLimit xm1_spec_GapLimit (lb1_spec_GapLimit env) tm h) (loopT (s1_spec_GapLimit gaps_ w6 w9) st) (fun (q : Int) (r : Res) => match q with | q91 => ∃ (h89 : Heap), r = (.exit 2, ((Sl.enc gaps_) :: und :: AV.top :: AV.top :: z5 :: (iv w9) :: (iv q91) :: AV.top :: und :: und :: und :: und :: x1 :: (iv w9) :: (Sl.enc gaps_) :: (iv (((gaps_.getD []).length : Nat) : Int)) :: (bv (decide (w9 < (((gaps_.getD []).length : Nat) : Int)))) :: AV.top :: AV.top :: (Sl.enc gaps_) :: (iv w9) :: (elp (Sl.enc gaps_) m80 0) :: (iv a79) :: (bv c83) :: (bv (!c83)) :: z5 :: (iv (((w6.getD []).length : Nat) : Int)) :: AV.top :: AV.top :: AV.top :: AV.top :: AV.top :: AV.top :: AV.top :: AV.top :: AV.top :: AV.top :: AV.top :: AV.top :: AV.top :: AV.top :: AV.top :: AV.top :: AV.top :: AV.top :: AV.top :: AV.top :: AV.top :: AV.top :: AV.top :: AV.top :: AV.top :: AV.top :: AV.top :: AV.top :: AV.top :: AV.top :: AV.top :: und :: und :: und :: und :: und :: und :: und :: und :: und :: und :: und :: und :: und :: und :: und :: und :: und :: und :: und :: und :: und :: und :: und :: und :: und :: und :: und :: und :: und :: und :: und :: und :: und :: und :: und :: und :: und :: und :: und :: und :: und :: und :: und :: und :: und :: und :: []), h89) ∧ Hold B h89 [(z5, obS (w6 : Sl Int))]) := by
  refine loop_sim (Rel := fun (st : Int) tm h86 => match st with | w88 => tm = ((Sl.enc gaps_) :: und :: AV.top :: AV.top :: z5 :: (iv w9) :: (iv w88) :: AV.top :: und :: und :: und :: und :: x1 :: (iv w9) :: (Sl.enc gaps_) :: (iv (((gaps_.getD []).length : Nat) : Int)) :: (bv (decide (w9 < (((gaps_.getD []).length : Nat) : Int)))) :: AV.top :: AV.top :: (Sl.enc gaps_) :: (iv w9) :: (elp (Sl.enc gaps_) m80 0) :: (iv a79) :: (bv c83) :: (bv (!c83)) :: z5 :: (iv (((w6.getD []).length : Nat) : Int)) :: AV.top :: AV.top :: AV.top :: AV.top :: AV.top :: AV.top :: AV.top :: AV.top :: AV.top :: AV.top :: AV.top :: AV.top :: AV.top :: AV.top :: AV.top :: AV.top :: AV.top :: AV.top :: AV.top :: AV.top :: AV.top :: AV.top :: AV.top :: AV.top :: AV.top :: AV.top :: AV.top :: AV.top :: AV.top :: AV.top :: AV.top :: und :: und :: und :: und :: und :: und :: und :: und :: und :: und :: und :: und :: und :: und :: und :: und :: und :: und :: und :: und :: und :: und :: und :: und :: und :: und :: und :: und :: und :: und :: und :: und :: und :: und :: und :: und :: und :: und :: und :: und :: und :: und :: und :: und :: und :: und :: []) ∧ Hold B h86 [(z5, obS (w6 : Sl Int))]) (fun w88 tm h86 R => ?_) R
  obtain ⟨rfl, O87⟩ := R
  rw [e_lb1_spec_GapLimit]
  unfold s1_spec_GapLimit
  dsimp only
  refine sim_let (v := bv (decide (0 < w88))) (aBin_gtr _ _) ?_
  refine sim_g10T (e := bv) (fun hb123 => ?_) (fun y133 y134 y135 y136 y137 y138 y139 y140 y141 c132 => ?_)
  · refine sim_o0 ?_
    refine sim_o0 ?_
    refine sim_o1 ?_
    refine sim_let (v := iv (wr (w88 - 1))) (aBin_sub _ _) ?_
    refine sim_o0 ?_
    refine sim_o1 ?_
    refine sim_get (O87.tab (A := Int) (s := w6) 0 rfl) (fun m125 a124 hi126 hm127 => ?_)
    refine sim_o0 ?_
    refine sim_o1 ?_
    refine sim_let (v := iv a124) ((O87.tab (A := Int) (s := w6) 0 rfl).ld hm127 false 1 0) ?_
    refine sim_o0 ?_
    refine sim_o0 ?_
    refine sim_o0 ?_
    refine sim_o1 ?_
    refine sim_get (Tab.enc h86 gaps_) (fun m129 a128 hi130 hm131 => ?_)
    refine sim_o0 ?_
    refine sim_o1 ?_
    refine sim_let (v := iv a128) ((Tab.enc h86 gaps_).ld hm131 false 1 0) ?_
    refine sim_o0 ?_
    refine sim_let (v := bv (decide (a128 < a124))) (aBin_gtr _ _) ?_
    exact sim_ret rfl
  · refine sim_let (v := bv (bif decide (0 < w88) then c132 else false)) (pick_b _ _ _) ?_
    refine sim_cond (fun c142 => ?_) (fun c142 => ?_)
    · refine sim_let (v := iv (wr (w88 - 1))) (aBin_sub _ _) ?_
      exact sim_ret ⟨rfl, rfl, O87⟩
    · exact sim_ret ⟨nofun, _, rfl, O87⟩
theorem tl0_spec_GapLimit (env : Nat → Contract) {B : Base} (he_spec_l00Own : env n_spec_l00Own = .pure (C1 (fun c : (Sl Int) => rS c) t_spec_l00Own)) (he_spec_l19Gap : env n_spec_l19Gap = .pure (C1 (fun c : Bool => enc c) t_spec_l19Gap)) (he_spec_l19Spread : env n_spec_l19Spread = .pure (C1 (fun c : Int => enc c) t_spec_l19Spread)) (gaps_ : Sl Int) (x1 : AV)  {st : (Sl Int) × Int} {tm : TM} {h : Heap} (R : (fun (st : (Sl Int) × Int) tm h7 => match st with | (w6, w9) => ∃ z5, tm = ((Sl.enc gaps_) :: und :: AV.top :: AV.top :: z5 :: (iv w9) :: AV.top :: AV.top :: und :: und :: und :: und :: x1 :: AV.top :: AV.top :: AV.top :: AV.top :: AV.top :: AV.top :: AV.top :: AV.top :: AV.top :: AV.top :: AV.top :: AV.top :: AV.top :: AV.top :: AV.top :: AV.top :: AV.top :: AV.top :: AV.top :: AV.top :: AV.top :: AV.top :: AV.top :: AV.top :: AV.top :: AV.top :: AV.top :: AV.top :: AV.top :: AV.top :: AV.top :: AV.top :: AV.top :: AV.top :: AV.top :: AV.top :: AV.top :: AV.top :: AV.top :: AV.top :: AV.top :: AV.top :: AV.top :: AV.top :: AV.top :: und :: und :: und :: und :: und :: und :: und :: und :: und :: und :: und :: und :: und :: und :: und :: und :: und :: und :: und :: und :: und :: und :: und :: und :: und :: und :: und :: und :: und :: und :: und :: und :: und :: und :: und :: und :: und :: und :: und :: und :: und :: und :: und :: und :: und :: und :: []) ∧ Hold B h7 [(z5, obS (w6 : Sl Int))]) st tm h) : Sim (loopP hm0_spec_GapLimit xm0_spec_GapLimit (lb0_spec_GapLimit env) tm h) (loopT (s0_spec_GapLimit gaps_) st) (fun (q : Sum (Sl Int) (Int × Int)) (r : Res) => match q with | .inl q13 => ∃ (q16 : Int) (z12 : AV) (z14 : AV) (z15 : AV) (z17 : AV) (z18 : AV) (h10 : Heap), r = (.exit 0, ((Sl.enc gaps_) :: und :: z14 :: z15 :: z12 :: (iv q16) :: z17 :: z18 :: und :: und :: und :: und :: x1 :: AV.top :: AV.top :: AV.top :: AV.top :: AV.top :: AV.top :: AV.top :: AV.top :: AV.top :: AV.top :: AV.top :: AV.top :: AV.top :: AV.top :: AV.top :: AV.top :: AV.top :: AV.top :: AV.top :: AV.top :: AV.top :: AV.top :: AV.top :: AV.top :: AV.top :: AV.top :: AV.top :: AV.top :: AV.top :: AV.top :: AV.top :: AV.top :: AV.top :: AV.top :: AV.top :: AV.top :: AV.top :: AV.top :: AV.top :: AV.top :: AV.top :: AV.top :: AV.top :: AV.top :: AV.top :: und :: und :: und :: und :: und :: und :: und :: und :: und :: und :: und :: und :: und :: und :: und :: und :: und :: und :: und :: und :: und :: und :: und :: und :: und :: und :: und :: und :: und :: und :: und :: und :: und :: und :: und :: und :: und :: und :: und :: und :: und :: und :: und :: und :: und :: und :: []), h10) ∧ Hold B h10 [(z12, obS (q13 : Sl Int))] | .inr (q73, q74) => ∃ (q72 : Sl Int) (q75 : Int) (z71 : AV) (z76 : AV) (z77 : AV) (h69 : Heap), r = (.ret, ((Sl.enc gaps_) :: und :: (iv q73) :: (iv q74) :: z71 :: (iv q75) :: z76 :: z77 :: und :: und :: und :: und :: x1 :: AV.top :: AV.top :: AV.top :: AV.top :: AV.top :: AV.top :: AV.top :: AV.top :: AV.top :: AV.top :: AV.top :: AV.top :: AV.top :: AV.top :: AV.top :: AV.top :: AV.top :: AV.top :: AV.top :: AV.top :: AV.top :: AV.top :: AV.top :: AV.top :: AV.top :: AV.top :: AV.top :: AV.top :: AV.top :: AV.top :: AV.top :: AV.top :: AV.top :: AV.top :: AV.top :: AV.top :: AV.top :: AV.top :: AV.top :: AV.top :: AV.top :: AV.top :: AV.top :: AV.top :: AV.top :: und :: und :: und :: und :: und :: und :: und :: und :: und :: und :: und :: und :: und :: und :: und :: und :: und :: und :: und :: und :: und :: und :: und :: und :: und :: und :: und :: und :: und :: und :: und :: und :: und :: und :: und :: und :: und :: und :: und :: und :: und :: und :: und :: und :: und :: und :: []), h69) ∧ Hold B h69 [(z71, obS (q72 : Sl Int))]) := by
  refine loop_sim (Rel := fun (st : (Sl Int) × Int) tm h7 => match st with | (w6, w9) => ∃ z5, tm = ((Sl.enc gaps_) :: und :: AV.top :: AV.top :: z5 :: (iv w9) :: AV.top :: AV.top :: und :: und :: und :: und :: x1 :: AV.top :: AV.top :: AV.top :: AV.top :: AV.top :: AV.top :: AV.top :: AV.top :: AV.top :: AV.top :: AV.top :: AV.top :: AV.top :: AV.top :: AV.top :: AV.top :: AV.top :: AV.top :: AV.top :: AV.top :: AV.top :: AV.top :: AV.top :: AV.top :: AV.top :: AV.top :: AV.top :: AV.top :: AV.top :: AV.top :: AV.top :: AV.top :: AV.top :: AV.top :: AV.top :: AV.top :: AV.top :: AV.top :: AV.top :: AV.top :: AV.top :: AV.top :: AV.top :: AV.top :: AV.top :: und :: und :: und :: und :: und :: und :: und :: und :: und :: und :: und :: und :: und :: und :: und :: und :: und :: und :: und :: und :: und :: und :: und :: und :: und :: und :: und :: und :: und :: und :: und :: und :: und :: und :: und :: und :: und :: und :: und :: und :: und :: und :: und :: und :: und :: und :: []) ∧ Hold B h7 [(z5, obS (w6 : Sl Int))]) (fun st tm h7 R => ?_) R
  obtain ⟨w6, w9⟩ := st
  obtain ⟨z5, rfl, O8⟩ := R
  rw [e_lb0_spec_GapLimit]
  unfold s0_spec_GapLimit
  dsimp only
  refine sim_let (v := iv (((gaps_.getD []).length : Nat) : Int)) (Tab.enc h7 gaps_).len ?_
  refine sim_let (v := bv (decide (w9 < (((gaps_.getD []).length : Nat) : Int)))) (aBin_lss _ _) ?_
  refine sim_cond (fun c78 => ?_) (fun c78 => ?_)
  · refine sim_get (Tab.enc h7 gaps_) (fun m80 a79 hi81 hm82 => ?_)
    refine sim_let (v := iv a79) ((Tab.enc h7 gaps_).ld hm82 false 1 0) ?_
    refine sim_call1 he_spec_l19Gap (snapD_int _ _) (fun c83 => ?_)
    refine sim_let2 (hand_plain (by rfl) _ _) ?_
    refine sim_let (v := bv (!c83)) (aUn_not _) ?_
    refine sim_cond (fun c84 => ?_) (fun c84 => ?_)
    · exact sim_ret ⟨nofun, _, _, _, _, _, _, rfl, O8⟩
    · refine sim_let (v := iv (((w6.getD []).length : Nat) : Int)) (O8.tab (A := Int) (s := w6) 0 rfl).len ?_
      refine sim_bind ((tl1_spec_GapLimit env he_spec_l00Own he_spec_l19Gap he_spec_l19Spread gaps_ x1 z5 w6 w9 a79 m80 c83) ⟨rfl, O8⟩) (fun qq146 r hq => ?_)
      revert hq
      revert qq146
      intro q91 hq
      obtain ⟨h89, rfl, O90⟩ := hq
      rw [e_lk1x2_spec_GapLimit]
      refine sim_subO01 (A := Int) (s := w6) O90 0 rfl (fun x92 s93 hq94 => ?_)
      refine sim_callQ1 he_spec_l00Own (hq94) (fun c95 => ?_)
      refine sim_hand (A := Int) O90 (fun x97 h98 O99 => ?_)
      replace O99 : Hold B h98 [(z5, obS (w6 : Sl Int)), (x97, obS (c95 : Sl Int))] := O99
      refine sim_get (Tab.enc h98 gaps_) (fun m101 a100 hi102 hm103 => ?_)
      refine sim_let (v := iv a100) ((Tab.enc h98 gaps_).ld hm103 false 1 0) ?_
      refine sim_build (A := Int) O99 ([a100] : List Int) rfl (by first | rfl | simp [aFillRows, zrows]) rfl (fun x104 h105 O106 => ?_)
      replace O106 : Hold B h105 [(z5, obS (w6 : Sl Int)), (x97, obS (c95 : Sl Int)), (x104, obS ((some ([a100] : List Int)) : Sl Int))] := O106
      refine sim_append (A := Int) (s := c95) O106 1 ([a100] : List Int) rfl (O106.src (A := Int) (s := (some ([a100] : List Int))) 2 rfl) (by decide) (fun x109 h110 O111 => ?_)
      replace O111 : Hold B h110 [(z5, obS (w6 : Sl Int)), (x109, obS ((appS c95 ([a100] : List Int)) : Sl Int)), (x104, obS ((some ([a100] : List Int)) : Sl Int))] := O111
      have O113 : Hold B h110 [(z5, obS (w6 : Sl Int)), (x109, obS ((appS c95 ([a100] : List Int)) : Sl Int))] := O111.sel [0, 1] (by decide) rfl
      refine sim_subO10 (A := Int) (s := w6) O113 0 rfl (fun x114 s115 hq116 => ?_)
      refine sim_append (A := Int) (s := (appS c95 ([a100] : List Int))) O113 1 (s115.getD []) rfl (src_snap hq116) (by decide) (fun x118 h119 O120 => ?_)
      replace O120 : Hold B h119 [(z5, obS (w6 : Sl Int)), (x118, obS ((appS (appS c95 ([a100] : List Int)) (s115.getD [])) : Sl Int))] := O120
      refine sim_let (v := iv (wr (w9 + 1))) (aBin_add _ _) ?_
      have O122 : Hold B h119 [(x118, obS ((appS (appS c95 ([a100] : List Int)) (s115.getD [])) : Sl Int))] := O120.sel [1] (by decide) rfl
      exact sim_ret ⟨rfl, _, rfl, O122⟩
  · exact sim_ret ⟨nofun, _, _, _, _, _, _, _, rfl, O8⟩
theorem ts_spec_GapLimit (env : Nat → Contract) (he_spec_l00Own : env n_spec_l00Own = .pure (C1 (fun c : (Sl Int) => rS c) t_spec_l00Own)) (he_spec_l19Gap : env n_spec_l19Gap = .pure (C1 (fun c : Bool => enc c) t_spec_l19Gap)) (he_spec_l19Spread : env n_spec_l19Spread = .pure (C1 (fun c : Int => enc c) t_spec_l19Spread)) (gaps_ : Sl Int) : Sim (denFn Try.prog env n_spec_GapLimit [Sl.enc gaps_] []) (t_spec_GapLimit gaps_) fun c p => release p.2 depth p.1 = some ((fun c : Int × Int => AV.tup [enc c.1, enc c.2]) c) := by
  have O := Hold.nil []
  generalize hB : (⟨[], []⟩ : Base) = B at O
  clear hB
  rw [e_spec_GapLimit]
  unfold t_spec_GapLimit
  refine sim_build (A := Int) O ([] : List Int) rfl (by first | rfl | simp [aFillRows, zrows]) rfl (fun x1 h2 O3 => ?_)
  replace O3 : Hold B h2 [(x1, obS ((some ([] : List Int)) : Sl Int))] := O3
  refine sim_bind ((tl0_spec_GapLimit env he_spec_l00Own he_spec_l19Gap he_spec_l19Spread gaps_ x1) ⟨_, rfl, O3⟩) (fun qq149 r hq => ?_)
  rcases qq149 with q13 | ⟨q73, q74⟩
  · obtain ⟨q16, z12, z14, z15, z17, z18, h10, rfl, O11⟩ := hq
    rw [e_lk0x0_spec_GapLimit]
    refine sim_let (v := iv (((gaps_.getD []).length : Nat) : Int)) (Tab.enc h10 gaps_).len ?_
    refine sim_let (v := bv (decide (60 < (((gaps_.getD []).length : Nat) : Int)))) (aBin_gtr _ _) ?_
    refine sim_cond (fun c19 => ?_) (fun c19 => ?_)
    · exact sim_ret (release_plain (by rfl) _)
    · refine sim_bind ((tl2_spec_GapLimit env he_spec_l00Own he_spec_l19Gap he_spec_l19Spread gaps_ x1 z12 q13 z14 z15 q16 z17 z18) ⟨rfl, O11⟩) (fun qq68 r hq => ?_)
      revert hq
      revert qq68
      intro q27 hq
      obtain ⟨q28, q29, z30, h25, rfl, O26⟩ := hq
      rw [e_lk2x4_spec_GapLimit]
      refine sim_let (v := bv (decide (q27 < 0))) (aBin_lss _ _) ?_
      refine sim_cond (fun c31 => ?_) (fun c31 => ?_)
      · exact sim_ret (release_plain (by rfl) _)
      · refine sim_let (v := iv (wr (q27 - 1))) (aBin_sub _ _) ?_
        refine sim_get (O26.tab (A := Int) (s := q13) 0 rfl) (fun m33 a32 hi34 hm35 => ?_)
        refine sim_let (v := iv a32) ((O26.tab (A := Int) (s := q13) 0 rfl).ld hm35 false 1 0) ?_
        exact sim_ret (release_plain (by rfl) _)
  · obtain ⟨q72, q75, z71, z76, z77, h69, rfl, O70⟩ := hq
    rw [e_lk0r_spec_GapLimit]
    exact sim_ret (release_plain (by rfl) _)
theorem tt_spec_GapLimit : PureOK Try.prog n_spec_GapLimit (C1 (fun c : Int × Int => AV.tup [enc c.1, enc c.2]) t_spec_GapLimit) := pureC1 (Econs tt_spec_l00Own (Econs tt_spec_l19Gap (Econs tt_spec_l19Spread E0))) mixed hb_spec_GapLimit fun gaps_ => ts_spec_GapLimit _ (by simp [envL]) (by simp [envL]) (by simp [envL]) gaps_

def s0_slices_IndexFunc_int64_int64 (p_ : Int → Option Bool) (s_ : Sl Int) : Int → Option (Sum Int (Sum Unit Int)) := fun w3 =>
  bif decide (w3 < (((s_.getD []).length : Nat) : Int)) then
    obind (getI (s_.getD []) w3) fun a13 =>
    obind (p_ a13) fun c17 =>
    bif c17 then
      some (.inr (.inr w3))
    else
      some (.inl (wr (w3 + 1)))
  else
    some (.inr (.inl ()))
def t_slices_IndexFunc_int64_int64 (p_ : Int → Option Bool) (s_ : Sl Int) : Option Int :=
  obind (loopT (s0_slices_IndexFunc_int64_int64 p_ s_) 0) fun qq26 => match qq26 with
  | (.inl _) =>
      some (-1)
  | (.inr q10) =>
      some q10

theorem tl0_slices_IndexFunc_int64_int64 (env : Nat → Contract) {B : Base} {K : Type} [Cod K] {g : Nat} {caps : K → List AV} {P : K → Int → Option Bool} (hp : ∀ k (a : Int) h, Sim (aCall (env g) (enc a :: caps k) h) (P k a) fun b r => r = (bv b, h))  (s_ : Sl Int) (f_ : K)  {st : Int} {tm : TM} {h : Heap} (R : (fun (st : Int) tm h1 => match st with | w3 => tm = [Sl.enc s_, AV.fn g (caps f_), und, und, AV.top, AV.top, Sl.enc s_, iv (((s_.getD []).length : Nat) : Int), iv w3, AV.top, AV.top, AV.top, AV.top, AV.top, AV.top, AV.top, AV.top, AV.top, AV.top] ∧ Hold B h1 []) st tm h) : Sim (loopP hm0_slices_IndexFunc_int64_int64 xm0_slices_IndexFunc_int64_int64 (lb0_slices_IndexFunc_int64_int64 env) tm h) (loopT (s0_slices_IndexFunc_int64_int64 (P f_) s_) st) (fun (q : Sum Unit Int) (r : Res) => match q with | .inl _ => ∃ (z6 : AV) (z7 : AV) (h4 : Heap), r = (.exit 0, [Sl.enc s_, AV.fn g (caps f_), und, und, z6, z7, Sl.enc s_, iv (((s_.getD []).length : Nat) : Int), AV.top, AV.top, AV.top, AV.top, AV.top, AV.top, AV.top, AV.top, AV.top, AV.top, AV.top], h4) ∧ Hold B h4 [] | .inr q10 => ∃ (q11 : Int) (h8 : Heap), r = (.ret, [Sl.enc s_, AV.fn g (caps f_), und, und, iv q10, iv q11, Sl.enc s_, iv (((s_.getD []).length : Nat) : Int), AV.top, AV.top, AV.top, AV.top, AV.top, AV.top, AV.top, AV.top, AV.top, AV.top, AV.top], h8) ∧ Hold B h8 []) := by
  refine loop_sim (Rel := fun (st : Int) tm h1 => match st with | w3 => tm = [Sl.enc s_, AV.fn g (caps f_), und, und, AV.top, AV.top, Sl.enc s_, iv (((s_.getD []).length : Nat) : Int), iv w3, AV.top, AV.top, AV.top, AV.top, AV.top, AV.top, AV.top, AV.top, AV.top, AV.top] ∧ Hold B h1 []) (fun w3 tm h1 R => ?_) R
  obtain ⟨rfl, O2⟩ := R
  rw [e_lb0_slices_IndexFunc_int64_int64]
  unfold s0_slices_IndexFunc_int64_int64
  dsimp only
  refine sim_let (v := bv (decide (w3 < (((s_.getD []).length : Nat) : Int)))) (aBin_lss _ _) ?_
  refine sim_cond (fun c12 => ?_) (fun c12 => ?_)
  · refine sim_get (Tab.enc h1 s_) (fun m14 a13 hi15 hm16 => ?_)
    refine sim_let (v := iv a13) ((Tab.enc h1 s_).ld hm16 false 1 0) ?_
    refine sim_bind2 (hp f_ a13 _) (fun c17 v18 hh19 hq20 => ?_)
    cases hq20
    refine sim_cond (fun c21 => ?_) (fun c21 => ?_)
    · exact sim_ret ⟨nofun, _, _, rfl, O2⟩
    · refine sim_let (v := iv (wr (w3 + 1))) (aBin_add _ _) ?_
      exact sim_ret ⟨rfl, rfl, O2⟩
  · exact sim_ret ⟨nofun, _, _, _, rfl, O2⟩
theorem ts_slices_IndexFunc_int64_int64 (env : Nat → Contract) {K : Type} [Cod K] {g : Nat} {caps : K → List AV} {P : K → Int → Option Bool} (hp : ∀ k (a : Int) h, Sim (aCall (env g) (enc a :: caps k) h) (P k a) fun b r => r = (bv b, h))  (s_ : Sl Int) (f_ : K) : Sim (denFn Try.prog env n_slices_IndexFunc_int64_int64 [Sl.enc s_, AV.fn g (caps f_)] []) (t_slices_IndexFunc_int64_int64 (P f_) s_) fun c p => release p.2 depth p.1 = some ((fun c : Int => enc c) c) := by
  have O := Hold.nil []
  generalize hB : (⟨[], []⟩ : Base) = B at O
  clear hB
  rw [e_slices_IndexFunc_int64_int64]
  unfold t_slices_IndexFunc_int64_int64
  refine sim_let (v := iv (((s_.getD []).length : Nat) : Int)) (Tab.enc [] s_).len ?_
  refine sim_bind ((tl0_slices_IndexFunc_int64_int64 env hp s_ f_) ⟨rfl, O⟩) (fun qq26 r hq => ?_)
  rcases qq26 with _ | q10
  · obtain ⟨z6, z7, h4, rfl, O5⟩ := hq
    rw [e_lk0x0_slices_IndexFunc_int64_int64]
    exact sim_ret (release_plain (by rfl) _)
  · obtain ⟨q11, h8, rfl, O9⟩ := hq
    rw [e_lk0r_slices_IndexFunc_int64_int64]
    exact sim_ret (release_plain (by rfl) _)
theorem tt0_slices_IndexFunc_int64_int64 {g : Nat} {t : Int → Option Bool} (hg : PureOK Try.prog g (C1 (fun c : Bool => enc c) t)) : PureOK Try.prog n_slices_IndexFunc_int64_int64 (C2 (fun c : Int => enc c) (fun (q : Sl Int) (k : Clo0 g) => t_slices_IndexFunc_int64_int64 ((fun _ : Clo0 g => t) k) q)) := pureC2 (Econs hg E0) mixed hb_slices_IndexFunc_int64_int64 fun q k => ts_slices_IndexFunc_int64_int64 _ (caps := fun _ => []) (P := (fun _ : Clo0 g => t)) (fun k a h => callP0 (by simp [envL]) (snapD_int _ a)) q k
theorem tt1_slices_IndexFunc_int64_int64 {g : Nat} {X : Type} [Row X] {tp : Int → Pt X → Option Bool} (hg : PureOK Try.prog g (C2 (fun c : Bool => enc c) tp)) : PureOK Try.prog n_slices_IndexFunc_int64_int64 (C2 (fun c : Int => enc c) (fun (q : Sl Int) (k : Clo g (Pt X)) => t_slices_IndexFunc_int64_int64 ((fun (k : Clo g (Pt X)) a => tp a k.val) k) q)) := pureC2 (Econs hg E0) mixed hb_slices_IndexFunc_int64_int64 fun q k => ts_slices_IndexFunc_int64_int64 _ (caps := fun k : Clo g (Pt X) => [enc k.val]) (P := (fun (k : Clo g (Pt X)) a => tp a k.val)) (fun k a h => callP1 (by simp [envL]) (snapD_int _ a) (snapD_fptr _ _ _ _ rfl)) q k

def t_slices_ContainsFunc_int64_int64 (p_ : Int → Option Bool) (s_ : Sl Int) : Option Bool :=
  obind (t_slices_IndexFunc_int64_int64 p_ s_) fun c1 =>
  some (decide (0 ≤ c1))

theorem ts_slices_ContainsFunc_int64_int64 (env : Nat → Contract) {K : Type} [Cod K] {g : Nat} {caps : K → List AV} {P : K → Int → Option Bool} (hs : ∀ k h, snapD h (AV.fn g (caps k)) = some k) (he_slices_IndexFunc_int64_int64 : env n_slices_IndexFunc_int64_int64 = .pure (C2 (fun c : Int => enc c) (fun (q : Sl Int) (k : K) => t_slices_IndexFunc_int64_int64 (P k) q))) (s_ : Sl Int) (f_ : K) : Sim (denFn Try.prog env n_slices_ContainsFunc_int64_int64 [Sl.enc s_, AV.fn g (caps f_)] []) (t_slices_ContainsFunc_int64_int64 (P f_) s_) fun c p => release p.2 depth p.1 = some ((fun c : Bool => enc c) c) := by
  have O := Hold.nil []
  generalize hB : (⟨[], []⟩ : Base) = B at O
  clear hB
  rw [e_slices_ContainsFunc_int64_int64]
  unfold t_slices_ContainsFunc_int64_int64
  refine sim_call2 (t := fun (q : Sl Int) (k : K) => t_slices_IndexFunc_int64_int64 (P k) q) he_slices_IndexFunc_int64_int64 (snapD_enc _ _) (hs f_ _) (fun c1 => ?_)
  refine sim_let2 (hand_plain (by rfl) _ _) ?_
  refine sim_let (v := bv (decide (0 ≤ c1))) (aBin_geq _ _) ?_
  exact sim_ret (release_plain (by rfl) _)
theorem tt0_slices_ContainsFunc_int64_int64 {g : Nat} {t : Int → Option Bool} (hg : PureOK Try.prog g (C1 (fun c : Bool => enc c) t)) : PureOK Try.prog n_slices_ContainsFunc_int64_int64 (C2 (fun c : Bool => enc c) (fun (q : Sl Int) (k : Clo0 g) => t_slices_ContainsFunc_int64_int64 ((fun _ : Clo0 g => t) k) q)) := pureC2 (Econs (tt0_slices_IndexFunc_int64_int64 hg) E0) mixed hb_slices_ContainsFunc_int64_int64 fun q k => ts_slices_ContainsFunc_int64_int64 _ (caps := fun _ => []) (P := (fun _ : Clo0 g => t)) (fun k h => snapD_clo0 h g) (by simp [envL]) q k
theorem tt1_slices_ContainsFunc_int64_int64 {g : Nat} {X : Type} [Row X] {tp : Int → Pt X → Option Bool} (hg : PureOK Try.prog g (C2 (fun c : Bool => enc c) tp)) : PureOK Try.prog n_slices_ContainsFunc_int64_int64 (C2 (fun c : Bool => enc c) (fun (q : Sl Int) (k : Clo g (Pt X)) => t_slices_ContainsFunc_int64_int64 ((fun (k : Clo g (Pt X)) a => tp a k.val) k) q)) := pureC2 (Econs (tt1_slices_IndexFunc_int64_int64 hg) E0) mixed hb_slices_ContainsFunc_int64_int64 fun q k => ts_slices_ContainsFunc_int64_int64 _ (caps := fun k : Clo g (Pt X) => [enc k.val]) (P := (fun (k : Clo g (Pt X)) a => tp a k.val)) (fun k h => snapD_cloE h k) (by simp [envL]) q k

def t_impl_isGap (n_ : Int) : Option Bool :=
  obind (some (within n_ 0 4095)) fun c1 =>
  some c1

theorem ts_impl_isGap (env : Nat → Contract) (he_impl_within : env n_impl_within = .pure (T3 within)) (n_ : Int) : Sim (denFn Try.prog env n_impl_isGap [iv n_] []) (t_impl_isGap n_) fun c p => release p.2 depth p.1 = some ((fun c : Bool => enc c) c) := by
  have O := Hold.nil []
  generalize hB : (⟨[], []⟩ : Base) = B at O
  clear hB
  rw [e_impl_isGap]
  unfold t_impl_isGap
  refine sim_callV3 (t := within) he_impl_within (snapD_int _ _) (snapD_int _ _) (snapD_int _ _) (fun c1 => ?_)
  exact sim_ret (release_plain (by rfl) _)
theorem tt_impl_isGap : PureOK Try.prog n_impl_isGap (C1 (fun c : Bool => enc c) t_impl_isGap) := pureC1 (Econs ok_impl_within E0) mixed hb_impl_isGap fun n_ => ts_impl_isGap _ (by simp [envL]) n_

def t_impl_GapLimit_1 (g_ : Int) : Option Bool :=
  obind (t_impl_isGap g_) fun c1 =>
  some (!c1)

theorem ts_impl_GapLimit_1 (env : Nat → Contract) (he_impl_isGap : env n_impl_isGap = .pure (C1 (fun c : Bool => enc c) t_impl_isGap)) (g_ : Int) : Sim (denFn Try.prog env n_impl_GapLimit_1 [iv g_] []) (t_impl_GapLimit_1 g_) fun c p => release p.2 depth p.1 = some ((fun c : Bool => enc c) c) := by
  have O := Hold.nil []
  generalize hB : (⟨[], []⟩ : Base) = B at O
  clear hB
  rw [e_impl_GapLimit_1]
  unfold t_impl_GapLimit_1
  refine sim_call1 he_impl_isGap (snapD_int _ _) (fun c1 => ?_)
  refine sim_let2 (hand_plain (by rfl) _ _) ?_
  refine sim_let (v := bv (!c1)) (aUn_not _) ?_
  exact sim_ret (release_plain (by rfl) _)
theorem tt_impl_GapLimit_1 : PureOK Try.prog n_impl_GapLimit_1 (C1 (fun c : Bool => enc c) t_impl_GapLimit_1) := pureC1 (Econs tt_impl_isGap E0) mixed hb_impl_GapLimit_1 fun g_ => ts_impl_GapLimit_1 _ (by simp [envL]) g_

def t_slices_Clone_int64_int64 (s_ : Sl Int) : Option (Sl Int) :=
  bif s_.isNone then
    some (none : Sl Int)
  else
    obind (appO (some ([] : List Int)) (s_.getD [])) fun _ =>
    some (appS (some ([] : List Int)) (s_.getD []))

theorem ts_slices_Clone_int64_int64 (env : Nat → Contract)  (s_ : Sl Int) : Sim (denFn Try.prog env n_slices_Clone_int64_int64 [Sl.enc s_] []) (t_slices_Clone_int64_int64 s_) fun c p => release p.2 depth p.1 = some ((fun c : (Sl Int) => rS c) c) := by
  have O := Hold.nil []
  generalize hB : (⟨[], []⟩ : Base) = B at O
  clear hB
  rw [e_slices_Clone_int64_int64]
  unfold t_slices_Clone_int64_int64
  refine sim_let (v := bv s_.isNone) (cmp_eqN _) ?_
  refine sim_cond (fun c1 => ?_) (fun c1 => ?_)
  · exact sim_ret (release_plain (by rfl) _)
  · refine sim_build (A := Int) O ([] : List Int) rfl (by first | rfl | simp [aFillRows, zrows]) rfl (fun x2 h3 O4 => ?_)
    replace O4 : Hold B h3 [(x2, obS ((some ([] : List Int)) : Sl Int))] := O4
    refine sim_append (A := Int) (s := (some ([] : List Int))) O4 0 (s_.getD []) rfl (src_enc _ _) (by decide) (fun x7 h8 O9 => ?_)
    replace O9 : Hold B h8 [(x7, obS ((appS (some ([] : List Int)) (s_.getD [])) : Sl Int))] := O9
    exact sim_ret (O9.rel (A := Int) (s := (appS (some ([] : List Int)) (s_.getD []))) 0 rfl)
theorem tt_slices_Clone_int64_int64 : PureOK Try.prog n_slices_Clone_int64_int64 (C1 (fun c : (Sl Int) => rS c) t_slices_Clone_int64_int64) := pureC1 E0 mixed hb_slices_Clone_int64_int64 fun s_ => ts_slices_Clone_int64_int64 _  s_

def s0_impl_spreadOf (list_ : Sl Int) (a1 : Int) : (Int × Int) → Option (Sum (Int × Int) Int) := fun (w7, w8) =>
  bif decide (w8 < (((list_.getD []).length : Nat) : Int)) then
    obind (getI (list_.getD []) w8) fun a14 =>
    obind (some (absI (wr (a14 - a1)))) fun c18 =>
    some (.inl (wr (w7 + c18), wr (w8 + 1)))
  else
    some (.inr w7)
def t_impl_spreadOf (list_ : Sl Int) : Option Int :=
  obind (getI (list_.getD []) (wr (Int.tdiv (wr ((((list_.getD []).length : Nat) : Int) - 1)) 2))) fun a1 =>
  obind (loopT (s0_impl_spreadOf list_ a1) (0, 0)) fun q11 =>
  some q11

theorem tl0_impl_spreadOf (env : Nat → Contract) {B : Base} (he_impl_abs : env n_impl_abs = .pure (T1 absI)) (list_ : Sl Int) (a1 : Int) (m2 : Nat)  {st : Int × Int} {tm : TM} {h : Heap} (R : (fun (st : Int × Int) tm h5 => match st with | (w7, w8) => tm = [Sl.enc list_, und, iv 0, iv a1, iv w7, und, AV.top, Sl.enc list_, Sl.enc list_, iv (((list_.getD []).length : Nat) : Int), iv (wr ((((list_.getD []).length : Nat) : Int) - 1)), iv (wr (Int.tdiv (wr ((((list_.getD []).length : Nat) : Int) - 1)) 2)), elp (Sl.enc list_) m2 0, iv a1, Sl.enc list_, iv (((list_.getD []).length : Nat) : Int), iv w8, AV.top, AV.top, AV.top, AV.top, AV.top, AV.top, AV.top, AV.top, AV.top, AV.top, und] ∧ Hold B h5 []) st tm h) : Sim (loopP hm0_impl_spreadOf xm0_impl_spreadOf (lb0_impl_spreadOf env) tm h) (loopT (s0_impl_spreadOf list_ a1) st) (fun (q : Int) (r : Res) => match q with | q11 => ∃ (z12 : AV) (h9 : Heap), r = (.exit 0, [Sl.enc list_, und, iv 0, iv a1, iv q11, und, z12, Sl.enc list_, Sl.enc list_, iv (((list_.getD []).length : Nat) : Int), iv (wr ((((list_.getD []).length : Nat) : Int) - 1)), iv (wr (Int.tdiv (wr ((((list_.getD []).length : Nat) : Int) - 1)) 2)), elp (Sl.enc list_) m2 0, iv a1, Sl.enc list_, iv (((list_.getD []).length : Nat) : Int), AV.top, AV.top, AV.top, AV.top, AV.top, AV.top, AV.top, AV.top, AV.top, AV.top, AV.top, und], h9) ∧ Hold B h9 []) := by
  refine loop_sim (Rel := fun (st : Int × Int) tm h5 => match st with | (w7, w8) => tm = [Sl.enc list_, und, iv 0, iv a1, iv w7, und, AV.top, Sl.enc list_, Sl.enc list_, iv (((list_.getD []).length : Nat) : Int), iv (wr ((((list_.getD []).length : Nat) : Int) - 1)), iv (wr (Int.tdiv (wr ((((list_.getD []).length : Nat) : Int) - 1)) 2)), elp (Sl.enc list_) m2 0, iv a1, Sl.enc list_, iv (((list_.getD []).length : Nat) : Int), iv w8, AV.top, AV.top, AV.top, AV.top, AV.top, AV.top, AV.top, AV.top, AV.top, AV.top, und] ∧ Hold B h5 []) (fun st tm h5 R => ?_) R
  obtain ⟨w7, w8⟩ := st
  obtain ⟨rfl, O6⟩ := R
  rw [e_lb0_impl_spreadOf]
  unfold s0_impl_spreadOf
  dsimp only
  refine sim_let (v := bv (decide (w8 < (((list_.getD []).length : Nat) : Int)))) (aBin_lss _ _) ?_
  refine sim_cond (fun c13 => ?_) (fun c13 => ?_)
  · refine sim_get (Tab.enc h5 list_) (fun m15 a14 hi16 hm17 => ?_)
    refine sim_let (v := iv a14) ((Tab.enc h5 list_).ld hm17 false 1 0) ?_
    refine sim_let (v := iv (wr (a14 - a1))) (aBin_sub _ _) ?_
    refine sim_callV1 (t := absI) he_impl_abs (snapD_int _ _) (fun c18 => ?_)
    refine sim_let (v := iv (wr (w7 + c18))) (aBin_add _ _) ?_
    refine sim_let (v := iv (wr (w8 + 1))) (aBin_add _ _) ?_
    exact sim_ret ⟨rfl, rfl, O6⟩
  · exact sim_ret ⟨nofun, _, _, rfl, O6⟩
theorem ts_impl_spreadOf (env : Nat → Contract) (he_impl_abs : env n_impl_abs = .pure (T1 absI)) (list_ : Sl Int) : Sim (denFn Try.prog env n_impl_spreadOf [Sl.enc list_] []) (t_impl_spreadOf list_) fun c p => release p.2 depth p.1 = some ((fun c : Int => enc c) c) := by
  have O := Hold.nil []
  generalize hB : (⟨[], []⟩ : Base) = B at O
  clear hB
  rw [e_impl_spreadOf]
  unfold t_impl_spreadOf
  refine sim_let (v := iv (((list_.getD []).length : Nat) : Int)) (Tab.enc [] list_).len ?_
  refine sim_let (v := iv (wr ((((list_.getD []).length : Nat) : Int) - 1))) (aBin_sub _ _) ?_
  refine sim_let (v := iv (wr (Int.tdiv (wr ((((list_.getD []).length : Nat) : Int) - 1)) 2))) (aBin_quo _ _ (by decide)) ?_
  refine sim_get (Tab.enc [] list_) (fun m2 a1 hi3 hm4 => ?_)
  refine sim_let (v := iv a1) ((Tab.enc [] list_).ld hm4 false 1 0) ?_
  refine sim_let (v := iv (((list_.getD []).length : Nat) : Int)) (Tab.enc [] list_).len ?_
  refine sim_bind ((tl0_impl_spreadOf env he_impl_abs list_ a1 m2) ⟨rfl, O⟩) (fun qq22 r hq => ?_)
  revert hq
  revert qq22
  intro q11 hq
  obtain ⟨z12, h9, rfl, O10⟩ := hq
  rw [e_lk0x0_impl_spreadOf]
  exact sim_ret (release_plain (by rfl) _)
theorem tt_impl_spreadOf : PureOK Try.prog n_impl_spreadOf (C1 (fun c : Int => enc c) t_impl_spreadOf) := pureC1 (Econs ok_impl_abs E0) mixed hb_impl_spreadOf fun list_ => ts_impl_spreadOf _ (by simp [envL]) list_

def s0_impl_GapLimit (c4 : (Sl Int)) : (Int × Int × Int) → Option (Sum (Int × Int × Int) (Int × Int)) := fun (w14, w15, w16) =>
  bif decide (w16 < ((((Option.map sortI c4).getD []).length : Nat) : Int)) then
    obind (getI ((Option.map sortI c4).getD []) (wr (w16 - 1))) fun a26 =>
    obind (getI ((Option.map sortI c4).getD []) w16) fun a30 =>
    bif decide (a26 = a30) then
      some (.inl (w14, w15, wr (w16 + 1)))
    else
      obind (subS (Option.map sortI c4) none (some w16)) fun s37 =>
      obind (t_impl_spreadOf s37) fun c39 =>
      obind (subS (Option.map sortI c4) (some w16) none) fun s41 =>
      obind (t_impl_spreadOf s41) fun c43 =>
      obind (bif decide (w15 < 0) then some false else (some (decide ((wr (c39 + c43)) < w15)))) fun c45 =>
      bif (bif decide (w15 < 0) then true else c45) then
        obind (getI ((Option.map sortI c4).getD []) (wr (w16 - 1))) fun a47 =>
        some (.inl (a47, wr (c39 + c43), wr (w16 + 1)))
      else
        some (.inl (w14, w15, wr (w16 + 1)))
  else
    some (.inr (w14, w15))
def t_impl_GapLimit (gaps_ : Sl Int) : Option (Int × Int) :=
  obind (t_slices_ContainsFunc_int64_int64 t_impl_GapLimit_1 gaps_) fun c1 =>
  bif c1 then
    some (0, 1)
  else
    bif decide (60 < (((gaps_.getD []).length : Nat) : Int)) then
      some (0, 5)
    else
      obind (t_slices_Clone_int64_int64 gaps_) fun c4 =>
      obind (sortO c4) fun _ =>
      obind (loopT (s0_impl_GapLimit c4) (0, (-1), 1)) fun (q20, q21) =>
      bif decide (q21 < 0) then
        some (0, 6)
      else
        some (q20, 0)

theorem tl0_impl_GapLimit (env : Nat → Contract) {B : Base} (he_impl_spreadOf : env n_impl_spreadOf = .pure (C1 (fun c : Int => enc c) t_impl_spreadOf)) (he_slices_Clone_int64_int64 : env n_slices_Clone_int64_int64 = .pure (C1 (fun c : (Sl Int) => rS c) t_slices_Clone_int64_int64)) (he_slices_ContainsFunc_int64_int64 : env n_slices_ContainsFunc_int64_int64 = .pure (C2 (fun c : Bool => enc c) (fun (q : Sl Int) (k : Clo0 n_impl_GapLimit_1) => t_slices_ContainsFunc_int64_int64 ((fun _ : Clo0 n_impl_GapLimit_1 => t_impl_GapLimit_1) k) q))) (he_slices_Sort_int64_int64 : env n_slices_Sort_int64_int64 = .gen sortF) (gaps_ : Sl Int) (c1 : Bool) (c4 : (Sl Int)) (x6 : AV)  {st : Int × Int × Int} {tm : TM} {h : Heap} (R : (fun (st : Int × Int × Int) tm h12 => match st with | (w14, w15, w16) => ∃ y17, tm = [Sl.enc gaps_, und, iv 0, iv 0, x6, iv w14, iv w15, iv w16, y17, Sl.enc gaps_, bv c1, Sl.enc gaps_, iv (((gaps_.getD []).length : Nat) : Int), bv (decide (60 < (((gaps_.getD []).length : Nat) : Int))), Sl.enc gaps_, x6, x6, und, AV.top, AV.top, AV.top, AV.top, AV.top, AV.top, AV.top, AV.top, AV.top, AV.top, AV.top, AV.top, AV.top, AV.top, AV.top, AV.top, AV.top, AV.top, AV.top, AV.top, AV.top, AV.top, AV.top, AV.top, AV.top, AV.top, AV.top, AV.top, AV.top, AV.top, AV.top, AV.top, AV.top, AV.top, AV.top, AV.top, AV.top, AV.top, und, und, und] ∧ Hold B h12 [(x6, obS ((Option.map sortI c4) : Sl Int))]) st tm h) : Sim (loopP hm0_impl_GapLimit xm0_impl_GapLimit (lb0_impl_GapLimit env) tm h) (loopT (s0_impl_GapLimit c4) st) (fun (q : Int × Int) (r : Res) => match q with | (q20, q21) => ∃ (q22 : Int) (z23 : AV) (h18 : Heap), r = (.exit 0, [Sl.enc gaps_, und, iv 0, iv 0, x6, iv q20, iv q21, iv q22, z23, Sl.enc gaps_, bv c1, Sl.enc gaps_, iv (((gaps_.getD []).length : Nat) : Int), bv (decide (60 < (((gaps_.getD []).length : Nat) : Int))), Sl.enc gaps_, x6, x6, und, AV.top, AV.top, AV.top, AV.top, AV.top, AV.top, AV.top, AV.top, AV.top, AV.top, AV.top, AV.top, AV.top, AV.top, AV.top, AV.top, AV.top, AV.top, AV.top, AV.top, AV.top, AV.top, AV.top, AV.top, AV.top, AV.top, AV.top, AV.top, AV.top, AV.top, AV.top, AV.top, AV.top, AV.top, AV.top, AV.top, AV.top, AV.top, und, und, und], h18) ∧ Hold B h18 [(x6, obS ((Option.map sortI c4) : Sl Int))]) := by
  refine loop_sim (Rel := fun (st : Int × Int × Int) tm h12 => match st with | (w14, w15, w16) => ∃ y17, tm = [Sl.enc gaps_, und, iv 0, iv 0, x6, iv w14, iv w15, iv w16, y17, Sl.enc gaps_, bv c1, Sl.enc gaps_, iv (((gaps_.getD []).length : Nat) : Int), bv (decide (60 < (((gaps_.getD []).length : Nat) : Int))), Sl.enc gaps_, x6, x6, und, AV.top, AV.top, AV.top, AV.top, AV.top, AV.top, AV.top, AV.top, AV.top, AV.top, AV.top, AV.top, AV.top, AV.top, AV.top, AV.top, AV.top, AV.top, AV.top, AV.top, AV.top, AV.top, AV.top, AV.top, AV.top, AV.top, AV.top, AV.top, AV.top, AV.top, AV.top, AV.top, AV.top, AV.top, AV.top, AV.top, AV.top, AV.top, und, und, und] ∧ Hold B h12 [(x6, obS ((Option.map sortI c4) : Sl Int))]) (fun st tm h12 R => ?_) R
  obtain ⟨w14, w15, w16⟩ := st
  obtain ⟨y17, rfl, O13⟩ := R
  rw [e_lb0_impl_GapLimit]
  unfold s0_impl_GapLimit
  dsimp only
  refine sim_let (v := iv ((((Option.map sortI c4).getD []).length : Nat) : Int)) (O13.tab (A := Int) (s := (Option.map sortI c4)) 0 rfl).len ?_
  refine sim_let (v := bv (decide (w16 < ((((Option.map sortI c4).getD []).length : Nat) : Int)))) (aBin_lss _ _) ?_
  refine sim_cond (fun c25 => ?_) (fun c25 => ?_)
  · refine sim_let (v := iv (wr (w16 - 1))) (aBin_sub _ _) ?_
    refine sim_get (O13.tab (A := Int) (s := (Option.map sortI c4)) 0 rfl) (fun m27 a26 hi28 hm29 => ?_)
    refine sim_let (v := iv a26) ((O13.tab (A := Int) (s := (Option.map sortI c4)) 0 rfl).ld hm29 false 1 0) ?_
    refine sim_get (O13.tab (A := Int) (s := (Option.map sortI c4)) 0 rfl) (fun m31 a30 hi32 hm33 => ?_)
    refine sim_let (v := iv a30) ((O13.tab (A := Int) (s := (Option.map sortI c4)) 0 rfl).ld hm33 false 1 0) ?_
    refine sim_let (v := bv (decide (a26 = a30))) (aCmp_eq _ _) ?_
    refine sim_cond (fun c34 => ?_) (fun c34 => ?_)
    · refine sim_let (v := iv (wr (w16 + 1))) (aBin_add _ _) ?_
      exact sim_ret ⟨rfl, _, rfl, O13⟩
    · refine sim_subO01 (A := Int) (s := (Option.map sortI c4)) O13 0 rfl (fun x36 s37 hq38 => ?_)
      refine sim_callQ1 he_impl_spreadOf (hq38) (fun c39 => ?_)
      refine sim_let2 (hand_plain (by rfl) _ _) ?_
      refine sim_subO10 (A := Int) (s := (Option.map sortI c4)) O13 0 rfl (fun x40 s41 hq42 => ?_)
      refine sim_callQ1 he_impl_spreadOf (hq42) (fun c43 => ?_)
      refine sim_let2 (hand_plain (by rfl) _ _) ?_
      refine sim_let (v := iv (wr (c39 + c43))) (aBin_add _ _) ?_
      refine sim_let (v := bv (decide (w15 < 0))) (aBin_lss _ _) ?_
      refine sim_guardF (e := bv) (fun hb44 => ?_) (fun c45 => ?_)
      · refine sim_let (v := bv (decide ((wr (c39 + c43)) < w15))) (aBin_lss _ _) ?_
        exact sim_ret rfl
      · refine sim_let (v := bv (bif decide (w15 < 0) then true else c45)) (pick_b' _ _ _) ?_
        refine sim_cond (fun c46 => ?_) (fun c46 => ?_)
        · refine sim_let (v := iv (wr (w16 - 1))) (aBin_sub _ _) ?_
          refine sim_get (O13.tab (A := Int) (s := (Option.map sortI c4)) 0 rfl) (fun m48 a47 hi49 hm50 => ?_)
          refine sim_let (v := iv a47) ((O13.tab (A := Int) (s := (Option.map sortI c4)) 0 rfl).ld hm50 false 1 0) ?_
          refine sim_let (v := iv (wr (w16 + 1))) (aBin_add _ _) ?_
          exact sim_ret ⟨rfl, _, rfl, O13⟩
        · refine sim_let (v := iv (wr (w16 + 1))) (aBin_add _ _) ?_
          exact sim_ret ⟨rfl, _, rfl, O13⟩
  · exact sim_ret ⟨nofun, _, _, _, rfl, O13⟩
theorem ts_impl_GapLimit (env : Nat → Contract) (he_impl_spreadOf : env n_impl_spreadOf = .pure (C1 (fun c : Int => enc c) t_impl_spreadOf)) (he_slices_Clone_int64_int64 : env n_slices_Clone_int64_int64 = .pure (C1 (fun c : (Sl Int) => rS c) t_slices_Clone_int64_int64)) (he_slices_ContainsFunc_int64_int64 : env n_slices_ContainsFunc_int64_int64 = .pure (C2 (fun c : Bool => enc c) (fun (q : Sl Int) (k : Clo0 n_impl_GapLimit_1) => t_slices_ContainsFunc_int64_int64 ((fun _ : Clo0 n_impl_GapLimit_1 => t_impl_GapLimit_1) k) q))) (he_slices_Sort_int64_int64 : env n_slices_Sort_int64_int64 = .gen sortF) (gaps_ : Sl Int) : Sim (denFnM true Try.prog env n_impl_GapLimit [Sl.enc gaps_] []) (t_impl_GapLimit gaps_) fun c p => release p.2 depth p.1 = some ((fun c : Int × Int => AV.tup [enc c.1, enc c.2]) c) := by
  have O := Hold.nil []
  generalize hB : (⟨[], []⟩ : Base) = B at O
  clear hB
  rw [e_impl_GapLimit]
  unfold t_impl_GapLimit
  refine sim_call2 (t := fun (q : Sl Int) (k : Clo0 n_impl_GapLimit_1) => t_slices_ContainsFunc_int64_int64 ((fun _ : Clo0 n_impl_GapLimit_1 => t_impl_GapLimit_1) k) q) he_slices_ContainsFunc_int64_int64 (snapD_enc _ _) (snapD_clo0 _ _) (fun c1 => ?_)
  refine sim_let2 (hand_plain (by rfl) _ _) ?_
  refine sim_cond (fun c2 => ?_) (fun c2 => ?_)
  · exact sim_ret (release_plain (by rfl) _)
  · refine sim_let (v := iv (((gaps_.getD []).length : Nat) : Int)) (Tab.enc [] gaps_).len ?_
    refine sim_let (v := bv (decide (60 < (((gaps_.getD []).length : Nat) : Int)))) (aBin_gtr _ _) ?_
    refine sim_cond (fun c3 => ?_) (fun c3 => ?_)
    · exact sim_ret (release_plain (by rfl) _)
    · refine sim_call1 he_slices_Clone_int64_int64 (snapD_enc _ _) (fun c4 => ?_)
      refine sim_hand (A := Int) O (fun x6 h7 O8 => ?_)
      replace O8 : Hold B h7 [(x6, obS (c4 : Sl Int))] := O8
      refine sim_sort O8 0 rfl he_slices_Sort_int64_int64 (fun h10 O11 => ?_)
      replace O11 : Hold B h10 [(x6, obS ((Option.map sortI c4) : Sl Int))] := O11
      refine sim_bind ((tl0_impl_GapLimit env he_impl_spreadOf he_slices_Clone_int64_int64 he_slices_ContainsFunc_int64_int64 he_slices_Sort_int64_int64 gaps_ c1 c4 x6) ⟨_, rfl, O11⟩) (fun qq55 r hq => ?_)
      obtain ⟨q20, q21⟩ := qq55
      obtain ⟨q22, z23, h18, rfl, O19⟩ := hq
      rw [e_lk0x0_impl_GapLimit]
      refine sim_let (v := bv (decide (q21 < 0))) (aBin_lss _ _) ?_
      refine sim_cond (fun c24 => ?_) (fun c24 => ?_)
      · exact sim_ret (release_plain (by rfl) _)
      · exact sim_ret (release_plain (by rfl) _)
theorem tt_impl_GapLimit : PureOK Try.prog n_impl_GapLimit (C1 (fun c : Int × Int => AV.tup [enc c.1, enc c.2]) t_impl_GapLimit) := pureCW1 (Econs tt_impl_spreadOf (Econs tt_slices_Clone_int64_int64 (Econs (tt0_slices_ContainsFunc_int64_int64 tt_impl_GapLimit_1) (EconsG gen_slices_Sort_int64_int64 E0)))) mixed hb_impl_GapLimit fun gaps_ => ts_impl_GapLimit _ (by simp [envL]) (by simp [envL]) (by simp [envL]) (by simp [envL]) gaps_

def s0_laws_eqInt64S (a_ : Sl Int) (b_ : Sl Int) : Int → Option (Sum Int (Sum Unit Bool)) := fun w4 =>
  bif decide (w4 < (((a_.getD []).length : Nat) : Int)) then
    obind (getI (a_.getD []) w4) fun a14 =>
    obind (getI (b_.getD []) w4) fun a18 =>
    bif !decide (a14 = a18) then
      some (.inr (.inr false))
    else
      some (.inl (wr (w4 + 1)))
  else
    some (.inr (.inl ()))
def t_laws_eqInt64S (a_ : Sl Int) (b_ : Sl Int) : Option Bool :=
  bif !decide ((((a_.getD []).length : Nat) : Int) = (((b_.getD []).length : Nat) : Int)) then
    some false
  else
    obind (loopT (s0_laws_eqInt64S a_ b_) 0) fun qq27 => match qq27 with
    | (.inl _) =>
        some true
    | (.inr q11) =>
        some q11

theorem tl0_laws_eqInt64S (env : Nat → Contract) {B : Base}  (a_ : Sl Int) (b_ : Sl Int)  {st : Int} {tm : TM} {h : Heap} (R : (fun (st : Int) tm h2 => match st with | w4 => tm = [Sl.enc a_, Sl.enc b_, und, und, AV.top, iv w4, Sl.enc a_, iv (((a_.getD []).length : Nat) : Int), Sl.enc b_, iv (((b_.getD []).length : Nat) : Int), bv (!decide ((((a_.getD []).length : Nat) : Int) = (((b_.getD []).length : Nat) : Int))), AV.top, AV.top, AV.top, AV.top, AV.top, AV.top, AV.top, AV.top, AV.top, AV.top, AV.top, AV.top, AV.top, AV.top, AV.top] ∧ Hold B h2 []) st tm h) : Sim (loopP hm0_laws_eqInt64S xm0_laws_eqInt64S (lb0_laws_eqInt64S env) tm h) (loopT (s0_laws_eqInt64S a_ b_) st) (fun (q : Sum Unit Bool) (r : Res) => match q with | .inl _ => ∃ (q8 : Int) (z7 : AV) (h5 : Heap), r = (.exit 0, [Sl.enc a_, Sl.enc b_, und, und, z7, iv q8, Sl.enc a_, iv (((a_.getD []).length : Nat) : Int), Sl.enc b_, iv (((b_.getD []).length : Nat) : Int), bv (!decide ((((a_.getD []).length : Nat) : Int) = (((b_.getD []).length : Nat) : Int))), AV.top, AV.top, AV.top, AV.top, AV.top, AV.top, AV.top, AV.top, AV.top, AV.top, AV.top, AV.top, AV.top, AV.top, AV.top], h5) ∧ Hold B h5 [] | .inr q11 => ∃ (q12 : Int) (h9 : Heap), r = (.ret, [Sl.enc a_, Sl.enc b_, und, und, bv q11, iv q12, Sl.enc a_, iv (((a_.getD []).length : Nat) : Int), Sl.enc b_, iv (((b_.getD []).length : Nat) : Int), bv (!decide ((((a_.getD []).length : Nat) : Int) = (((b_.getD []).length : Nat) : Int))), AV.top, AV.top, AV.top, AV.top, AV.top, AV.top, AV.top, AV.top, AV.top, AV.top, AV.top, AV.top, AV.top, AV.top, AV.top], h9) ∧ Hold B h9 []) := by
  refine loop_sim (Rel := fun (st : Int) tm h2 => match st with | w4 => tm = [Sl.enc a_, Sl.enc b_, und, und, AV.top, iv w4, Sl.enc a_, iv (((a_.getD []).length : Nat) : Int), Sl.enc b_, iv (((b_.getD []).length : Nat) : Int), bv (!decide ((((a_.getD []).length : Nat) : Int) = (((b_.getD []).length : Nat) : Int))), AV.top, AV.top, AV.top, AV.top, AV.top, AV.top, AV.top, AV.top, AV.top, AV.top, AV.top, AV.top, AV.top, AV.top, AV.top] ∧ Hold B h2 []) (fun w4 tm h2 R => ?_) R
  obtain ⟨rfl, O3⟩ := R
  rw [e_lb0_laws_eqInt64S]
  unfold s0_laws_eqInt64S
  dsimp only
  refine sim_let (v := iv (((a_.getD []).length : Nat) : Int)) (Tab.enc h2 a_).len ?_
  refine sim_let (v := bv (decide (w4 < (((a_.getD []).length : Nat) : Int)))) (aBin_lss _ _) ?_
  refine sim_cond (fun c13 => ?_) (fun c13 => ?_)
  · refine sim_get (Tab.enc h2 a_) (fun m15 a14 hi16 hm17 => ?_)
    refine sim_let (v := iv a14) ((Tab.enc h2 a_).ld hm17 false 1 0) ?_
    refine sim_get (Tab.enc h2 b_) (fun m19 a18 hi20 hm21 => ?_)
    refine sim_let (v := iv a18) ((Tab.enc h2 b_).ld hm21 false 1 0) ?_
    refine sim_let (v := bv (!decide (a14 = a18))) (aCmp_ne _ _) ?_
    refine sim_cond (fun c22 => ?_) (fun c22 => ?_)
    · exact sim_ret ⟨nofun, _, _, rfl, O3⟩
    · refine sim_let (v := iv (wr (w4 + 1))) (aBin_add _ _) ?_
      exact sim_ret ⟨rfl, rfl, O3⟩
  · exact sim_ret ⟨nofun, _, _, _, rfl, O3⟩
theorem ts_laws_eqInt64S (env : Nat → Contract)  (a_ : Sl Int) (b_ : Sl Int) : Sim (denFn Try.prog env n_laws_eqInt64S [Sl.enc a_, Sl.enc b_] []) (t_laws_eqInt64S a_ b_) fun c p => release p.2 depth p.1 = some ((fun c : Bool => enc c) c) := by
  have O := Hold.nil []
  generalize hB : (⟨[], []⟩ : Base) = B at O
  clear hB
  rw [e_laws_eqInt64S]
  unfold t_laws_eqInt64S
  refine sim_let (v := iv (((a_.getD []).length : Nat) : Int)) (Tab.enc [] a_).len ?_
  refine sim_let (v := iv (((b_.getD []).length : Nat) : Int)) (Tab.enc [] b_).len ?_
  refine sim_let (v := bv (!decide ((((a_.getD []).length : Nat) : Int) = (((b_.getD []).length : Nat) : Int)))) (aCmp_ne _ _) ?_
  refine sim_cond (fun c1 => ?_) (fun c1 => ?_)
  · exact sim_ret (release_plain (by rfl) _)
  · refine sim_bind ((tl0_laws_eqInt64S env a_ b_) ⟨rfl, O⟩) (fun qq27 r hq => ?_)
    rcases qq27 with _ | q11
    · obtain ⟨q8, z7, h5, rfl, O6⟩ := hq
      rw [e_lk0x0_laws_eqInt64S]
      exact sim_ret (release_plain (by rfl) _)
    · obtain ⟨q12, h9, rfl, O10⟩ := hq
      rw [e_lk0r_laws_eqInt64S]
      exact sim_ret (release_plain (by rfl) _)
theorem tt_laws_eqInt64S : PureOK Try.prog n_laws_eqInt64S (C2 (fun c : Bool => enc c) t_laws_eqInt64S) := pureC2 E0 mixed hb_laws_eqInt64S fun a_ b_ => ts_laws_eqInt64S _  a_ b_

def t_laws_FnExactGapLimit (aGaps_ : Sl Int) : Option Bool :=
  bif decide (1048576 < (((aGaps_.getD []).length : Nat) : Int)) then
    some true
  else
    obind (t_laws_toInt64S aGaps_) fun c2 =>
    obind (t_spec_GapLimit c2) fun c7 =>
    obind (t_laws_toInt64S aGaps_) fun c8 =>
    obind (t_impl_GapLimit c8) fun c13 =>
    obind (bif !decide (c13.1 = c7.1) then some false else (some (!decide (c13.2 = c7.2)))) fun c15 =>
    bif (bif !decide (c13.1 = c7.1) then true else c15) then
      some false
    else
      obind (t_laws_toInt64S aGaps_) fun c17 =>
      obind (t_laws_eqInt64S c8 c17) fun c22 =>
      bif !c22 then
        some false
      else
        some true

theorem ts_laws_FnExactGapLimit (env : Nat → Contract) (he_impl_GapLimit : env n_impl_GapLimit = .pure (C1 (fun c : Int × Int => AV.tup [enc c.1, enc c.2]) t_impl_GapLimit)) (he_laws_eqInt64S : env n_laws_eqInt64S = .pure (C2 (fun c : Bool => enc c) t_laws_eqInt64S)) (he_laws_toInt64S : env n_laws_toInt64S = .pure (C1 (fun c : (Sl Int) => rS c) t_laws_toInt64S)) (he_spec_GapLimit : env n_spec_GapLimit = .pure (C1 (fun c : Int × Int => AV.tup [enc c.1, enc c.2]) t_spec_GapLimit)) (aGaps_ : Sl Int) : Sim (denFn Try.prog env n_laws_FnExactGapLimit [Sl.enc aGaps_] []) (t_laws_FnExactGapLimit aGaps_) fun c p => release p.2 depth p.1 = some ((fun c : Bool => enc c) c) := by
  have O := Hold.nil []
  generalize hB : (⟨[], []⟩ : Base) = B at O
  clear hB
  rw [e_laws_FnExactGapLimit]
  unfold t_laws_FnExactGapLimit
  refine sim_let (v := iv (((aGaps_.getD []).length : Nat) : Int)) (Tab.enc [] aGaps_).len ?_
  refine sim_let (v := bv (decide (1048576 < (((aGaps_.getD []).length : Nat) : Int)))) (aBin_gtr _ _) ?_
  refine sim_cond (fun c1 => ?_) (fun c1 => ?_)
  · exact sim_ret (release_plain (by rfl) _)
  · refine sim_call1 he_laws_toInt64S (snapD_enc _ _) (fun c2 => ?_)
    refine sim_hand (A := Int) O (fun x4 h5 O6 => ?_)
    replace O6 : Hold B h5 [(x4, obS (c2 : Sl Int))] := O6
    refine sim_call1 he_spec_GapLimit ((O6.tab (A := Int) (s := c2) 0 rfl).snap) (fun c7 => ?_)
    refine sim_let2 (hand_plain (by rfl) _ _) ?_
    refine sim_let (v := iv c7.1) rfl ?_
    refine sim_let (v := iv c7.2) rfl ?_
    refine sim_call1 he_laws_toInt64S (snapD_enc _ _) (fun c8 => ?_)
    refine sim_hand (A := Int) O6 (fun x10 h11 O12 => ?_)
    replace O12 : Hold B h11 [(x4, obS (c2 : Sl Int)), (x10, obS (c8 : Sl Int))] := O12
    refine sim_call1 he_impl_GapLimit ((O12.tab (A := Int) (s := c8) 1 rfl).snap) (fun c13 => ?_)
    refine sim_let2 (hand_plain (by rfl) _ _) ?_
    refine sim_let (v := iv c13.1) rfl ?_
    refine sim_let (v := iv c13.2) rfl ?_
    refine sim_let (v := bv (!decide (c13.1 = c7.1))) (aCmp_ne _ _) ?_
    refine sim_guardF (e := bv) (fun hb14 => ?_) (fun c15 => ?_)
    · refine sim_let (v := bv (!decide (c13.2 = c7.2))) (aCmp_ne _ _) ?_
      exact sim_ret rfl
    · refine sim_let (v := bv (bif !decide (c13.1 = c7.1) then true else c15)) (pick_b' _ _ _) ?_
      refine sim_cond (fun c16 => ?_) (fun c16 => ?_)
      · exact sim_ret (release_plain (by rfl) _)
      · refine sim_call1 he_laws_toInt64S (snapD_enc _ _) (fun c17 => ?_)
        refine sim_hand (A := Int) O12 (fun x19 h20 O21 => ?_)
        replace O21 : Hold B h20 [(x4, obS (c2 : Sl Int)), (x10, obS (c8 : Sl Int)), (x19, obS (c17 : Sl Int))] := O21
        refine sim_call2 he_laws_eqInt64S ((O21.tab (A := Int) (s := c8) 1 rfl).snap) ((O21.tab (A := Int) (s := c17) 2 rfl).snap) (fun c22 => ?_)
        refine sim_let2 (hand_plain (by rfl) _ _) ?_
        refine sim_let (v := bv (!c22)) (aUn_not _) ?_
        refine sim_cond (fun c23 => ?_) (fun c23 => ?_)
        · exact sim_ret (release_plain (by rfl) _)
        · exact sim_ret (release_plain (by rfl) _)
theorem tt_laws_FnExactGapLimit : PureOK Try.prog n_laws_FnExactGapLimit (C1 (fun c : Bool => enc c) t_laws_FnExactGapLimit) := pureC1 (Econs tt_impl_GapLimit (Econs tt_laws_eqInt64S (Econs tt_laws_toInt64S (Econs tt_spec_GapLimit E0)))) mixed hb_laws_FnExactGapLimit fun aGaps_ => ts_laws_FnExactGapLimit _ (by simp [envL]) (by simp [envL]) (by simp [envL]) (by simp [envL]) aGaps_

theorem wr_succ {k n : Nat} (h : k < n) (hn : n ≤ 4294967296) : wr ((k : Int) + 1) = ((k + 1 : Nat) : Int) := by
  rw [wr_id (by omega) (by omega)]
  omega

theorem get_lt {A : Type} {l : List A} {k : Nat} {a : A} (h : l[k]? = some a) : k < l.length := (List.getElem?_eq_some_iff.1 h).1

theorem appS_cons {A : Type} (s : Sl A) (a : A) (l : List A) : appS s (a :: l) = some (s.getD [] ++ a :: l) := by cases s <;> rfl

def sumN (f : Nat → Int) : Nat → Int
  | 0 => 0
  | k + 1 => sumN f k + f k

theorem sumN_le {f : Nat → Int} {K : Int} (h : ∀ i, 0 ≤ f i ∧ f i ≤ K) : ∀ n : Nat, 0 ≤ sumN f n ∧ sumN f n ≤ K * (n : Int)
  | 0 => by simp [sumN]
  | n + 1 => by
    have h1 := sumN_le h n
    have h2 := h n
    have e : K * ((n + 1 : Nat) : Int) = K * (n : Int) + K := by
      have : ((n + 1 : Nat) : Int) = (n : Int) + 1 := by omega
      rw [this, Int.mul_add, Int.mul_one]
    show 0 ≤ sumN f n + f n ∧ sumN f n + f n ≤ _
    omega

/-- A table's entry. -/
def Val (T : List (Sl Int)) (p q : Nat) (v : Int) : Prop := ∃ row, T[p]? = some (some row) ∧ row[q]? = some v

theorem Val.set {T : List (Sl Int)} {i j p q : Nat} {row : List Int} {v w : Int} (hr : T[i]? = some (some row)) (hj : j < row.length) :
    Val (T.set i (some (row.set j w))) p q v ↔ (p = i ∧ q = j ∧ v = w) ∨ (¬ (p = i ∧ q = j) ∧ Val T p q v) := by
  have hi := get_lt hr
  unfold Val
  constructor
  · rintro ⟨r, h1, h2⟩
    by_cases c : i = p
    · subst c
      rw [List.getElem?_set_self hi] at h1
      cases h1
      by_cases d : j = q
      · subst d
        rw [List.getElem?_set_self hj] at h2
        cases h2
        exact .inl ⟨rfl, rfl, rfl⟩
      · rw [List.getElem?_set_ne d] at h2
        exact .inr ⟨fun h => d h.2.symm, row, hr, h2⟩
    · rw [List.getElem?_set_ne c] at h1
      exact .inr ⟨fun h => c h.1.symm, r, h1, h2⟩
  · rintro (⟨rfl, rfl, rfl⟩ | ⟨hne, r, h1, h2⟩)
    · exact ⟨_, List.getElem?_set_self hi, List.getElem?_set_self hj⟩
    · by_cases c : i = p
      · subst c
        rw [hr] at h1
        cases h1
        have d : j ≠ q := fun h => hne ⟨rfl, h.symm⟩
        exact ⟨_, List.getElem?_set_self hi, by rw [List.getElem?_set_ne d]; exact h2⟩
      · exact ⟨r, by rw [List.getElem?_set_ne c]; exact h1, h2⟩

def PVal (T : List (Sl Part)) (p q : Nat) (v : Part) : Prop := ∃ row, T[p]? = some (some row) ∧ row[q]? = some v

theorem PVal.set {T : List (Sl Part)} {i j p q : Nat} {row : List Part} {v w : Part} (hr : T[i]? = some (some row)) (hj : j < row.length) :
    PVal (T.set i (some (row.set j w))) p q v ↔ (p = i ∧ q = j ∧ v = w) ∨ (¬ (p = i ∧ q = j) ∧ PVal T p q v) := by
  have hi := get_lt hr
  unfold PVal
  constructor
  · rintro ⟨r, h1, h2⟩
    by_cases c : i = p
    · subst c
      rw [List.getElem?_set_self hi] at h1
      cases h1
      by_cases d : j = q
      · subst d
        rw [List.getElem?_set_self hj] at h2
        cases h2
        exact .inl ⟨rfl, rfl, rfl⟩
      · rw [List.getElem?_set_ne d] at h2
        exact .inr ⟨fun h => d h.2.symm, row, hr, h2⟩
    · rw [List.getElem?_set_ne c] at h1
      exact .inr ⟨fun h => c h.1.symm, r, h1, h2⟩
  · rintro (⟨rfl, rfl, rfl⟩ | ⟨hne, r, h1, h2⟩)
    · exact ⟨_, List.getElem?_set_self hi, List.getElem?_set_self hj⟩
    · by_cases c : i = p
      · subst c
        rw [hr] at h1
        cases h1
        have d : j ≠ q := fun h => hne ⟨rfl, h.symm⟩
        exact ⟨_, List.getElem?_set_self hi, by rw [List.getElem?_set_ne d]; exact h2⟩
      · exact ⟨r, by rw [List.getElem?_set_ne c]; exact h1, h2⟩

def d2 (a b : Point) : Int := (a.x - b.x) * (a.x - b.x) + (a.y - b.y) * (a.y - b.y)

/-- One box is in another one. -/
structure InB (a b : Box) : Prop where
  x1 : b.x1 ≤ a.x1
  y1 : b.y1 ≤ a.y1
  x2 : a.x2 ≤ b.x2
  y2 : a.y2 ≤ b.y2

theorem InB.trans {a b c : Box} (h : InB a b) (g : InB b c) : InB a c := ⟨Int.le_trans g.x1 h.x1, Int.le_trans g.y1 h.y1, Int.le_trans h.x2 g.x2, Int.le_trans h.y2 g.y2⟩

/-- A copy, element by element. -/
theorem copyLoop {A : Type} (d : A) (l : List A) (hl : l.length ≤ 4294967296) (step : ((Sl A) × Int) → Option (Sum ((Sl A) × Int) (Sl A)))
    (next : ∀ (M : List A) (k : Nat) (a : A), M.length = l.length → l[k]? = some a → step (some M, (k : Int)) = some (.inl (some (M.set k a), wr ((k : Int) + 1))))
    (fin : ∀ w : Sl A, step (w, ((l.length : Nat) : Int)) = some (.inr w)) : loopT step (some (List.replicate l.length d), 0) = some (some l) := by
  obtain ⟨r, h1, h2⟩ := loopT_ex (step := step) (fun k t => ∃ M, t = (some M, (k : Int)) ∧ M.length = l.length ∧ ∀ j, j < k → M[j]? = l[j]?) l.length (fun r => r = some l)
    (fun k t hk ht => by
      obtain ⟨M, rfl, m1, m2⟩ := ht
      obtain ⟨a, ha⟩ : ∃ a, l[k]? = some a := ⟨l[k], List.getElem?_eq_getElem hk⟩
      have e := next M k a m1 ha
      rw [wr_succ hk hl] at e
      refine .inl ⟨_, e, _, rfl, by rw [List.length_set, m1], fun j hj => ?_⟩
      by_cases c : j = k
      · subst c
        rw [List.getElem?_set_self (by omega), ha]
      · rw [List.getElem?_set_ne (fun h => c h.symm)]
        exact m2 j (by omega))
    (fun t ht => by
      obtain ⟨M, rfl, m1, m2⟩ := ht
      refine ⟨_, fin _, ?_⟩
      congr 1
      apply List.ext_getElem?
      intro j
      by_cases c : j < l.length
      · exact m2 j c
      · rw [List.getElem?_eq_none (by omega), List.getElem?_eq_none (by omega)])
    (s := (some (List.replicate l.length d), 0)) ⟨_, rfl, by simp, fun j hj => by omega⟩
  rw [h1, h2]

theorem toInt64S_ok (a : Sl Int) (hl : (a.getD []).length ≤ 4294967296) : t_laws_toInt64S a = some (some (a.getD [])) := by
  have mk : makeO (0 : Int) (((a.getD []).length : Nat) : Int) = some (List.replicate (a.getD []).length 0) := by
    unfold makeO
    rw [if_pos ⟨by omega, by omega⟩, Int.toNat_natCast]
  have lp := copyLoop (0 : Int) (a.getD []) hl (s0_laws_toInt64S a) (fun M k x hM hx => by
    have hk := get_lt hx
    have c : (k : Int) < (((a.getD []).length : Nat) : Int) := by omega
    obtain ⟨y, hy⟩ : ∃ y, M[k]? = some y := ⟨M[k]'(by omega), List.getElem?_eq_getElem _⟩
    unfold s0_laws_toInt64S
    simp only [c, decide_true, cond_true, getI_nat hx, obind_sm, Option.getD_some, getI_nat hy, setS, Option.map_some, Int.toNat_natCast]) (fun w => by
    unfold s0_laws_toInt64S
    simp only [Int.lt_irrefl, decide_false, cond_false])
  unfold t_laws_toInt64S
  rw [mk, obind_sm, lp, obind_sm]

theorem eqI_ok {a b : Sl Int} (h : a.getD [] = b.getD []) (hl : (a.getD []).length ≤ 4294967296) : t_laws_eqInt64S a b = some true := by
  have lp := loopT_first (step := s0_laws_eqInt64S a b) (a.getD []) (fun _ _ => (none : Option Bool)) (.inl ()) .inr
    (fun k x hx => by
      have hk := get_lt hx
      have c : (k : Int) < ((a.getD []).length : Nat) := by omega
      unfold s0_laws_eqInt64S
      simp only [c, decide_true, cond_true, getI_nat hx, ← h, obind_sm, Bool.not_true, cond_false, wr_succ hk hl])
    (by
      unfold s0_laws_eqInt64S
      simp only [Int.lt_irrefl, decide_false, cond_false])
  rw [firstL_none (fun _ _ _ => rfl)] at lp
  unfold t_laws_eqInt64S
  rw [lp, ← h]
  simp

theorem appO_big {A : Type} (s : Sl A) (a : A) (h : (s.getD []).length ≤ 2000000) : appO s [a] = some (some (s.getD [] ++ [a])) := by
  rw [appO_some (by simp; omega), appS_cons]

def itAt (I : List Int) (k : Nat) : Int := I.getD k 0

theorem itAt_get {I : List Int} {k : Nat} (h : k < I.length) : I[k]? = some (itAt I k) := by
  unfold itAt
  rw [List.getD_eq_getElem?_getD, List.getElem?_eq_getElem h]
  rfl

/-- Sorted numbers. -/
def Asc (l : List Int) : Prop := l.Pairwise fun x y => decide (x ≤ y) = true

theorem asc_sortI (l : List Int) : Asc (sortI l) := List.pairwise_mergeSort (le := fun x y : Int => decide (x ≤ y)) (fun a b c h1 h2 => by simp at *; omega) (fun a b => by simp; omega) l

theorem asc_uniq {l m : List Int} (h1 : Asc l) (h2 : Asc m) (p : l.Perm m) : l = m := List.Perm.eq_of_pairwise (fun a b _ _ h g => by simp at h g; omega) h1 h2 p

theorem asc_get {l : List Int} (h : Asc l) {i j : Nat} {a b : Int} (hij : i < j) (ha : l[i]? = some a) (hb : l[j]? = some b) : a ≤ b := by
  obtain ⟨h1, rfl⟩ := List.getElem?_eq_some_iff.1 ha
  obtain ⟨h2, rfl⟩ := List.getElem?_eq_some_iff.1 hb
  have := List.pairwise_iff_getElem.1 h i j h1 h2 hij
  simpa using this

theorem asc_ins {l : List Int} (h : Asc l) {q : Nat} {g : Int} (hq : q ≤ l.length) (h1 : ∀ i a, i < q → l[i]? = some a → a ≤ g) (h2 : ∀ i a, q ≤ i → l[i]? = some a → g ≤ a) : Asc (l.take q ++ [g] ++ l.drop q) := by
  unfold Asc
  rw [List.pairwise_append, List.pairwise_append]
  refine ⟨⟨h.sublist (List.take_sublist _ _), List.pairwise_singleton _ _, fun a ha b hb => ?_⟩, h.sublist (List.drop_sublist _ _), fun a ha b hb => ?_⟩
  · obtain ⟨i, hi⟩ := List.mem_iff_getElem?.1 ha
    rw [List.getElem?_take] at hi
    split at hi
    · rw [List.mem_singleton] at hb
      subst hb
      simpa using h1 i a ‹_› hi
    · cases hi
  · obtain ⟨j, hj⟩ := List.mem_iff_getElem?.1 hb
    rw [List.getElem?_drop] at hj
    have gb := h2 (q + j) b (by omega) hj
    rcases List.mem_append.1 ha with ha | ha
    · obtain ⟨i, hi⟩ := List.mem_iff_getElem?.1 ha
      rw [List.getElem?_take] at hi
      split at hi
      · have := h1 i a ‹_› hi
        simp
        omega
      · cases hi
    · rw [List.mem_singleton] at ha
      subst ha
      simpa using gb

theorem perm_ins {l : List Int} {q : Nat} {g : Int} : (l.take q ++ [g] ++ l.drop q).Perm (g :: l) := by
  have h1 : (l.take q ++ [g] ++ l.drop q).Perm (g :: (l.take q ++ l.drop q)) := by
    rw [List.append_assoc]
    exact List.perm_middle
  rw [List.take_append_drop] at h1
  exact h1

/-- How far the numbers of a list are from the middle one, in all. -/
def spF (l : List Int) (i : Nat) : Int := absI (itAt l i - itAt l ((l.length - 1) / 2))

def gapV (l : List Int) : Prop := ∀ x ∈ l, 0 ≤ x ∧ x ≤ 4095

theorem itAt_v {l : List Int} (h : gapV l) (i : Nat) : 0 ≤ itAt l i ∧ itAt l i ≤ 4095 := by
  unfold itAt
  rw [List.getD_eq_getElem?_getD]
  cases e : l[i]? with
  | none => simp
  | some a => exact h a (List.mem_of_getElem? e)

theorem spF_v {l : List Int} (h : gapV l) (i : Nat) : 0 ≤ spF l i ∧ spF l i ≤ 4095 := by
  have h1 := itAt_v h i
  have h2 := itAt_v h ((l.length - 1) / 2)
  unfold spF absI
  cases e : decide (itAt l i - itAt l ((l.length - 1) / 2) < 0) with
  | true =>
    have := of_decide_eq_true e
    rw [cond_true, wr_id (by omega) (by omega)]
    omega
  | false =>
    have := of_decide_eq_false e
    rw [cond_false]
    omega

theorem spread_ok {l : List Int} (h : gapV l) (h1 : 1 ≤ l.length) (h2 : l.length ≤ 60) : t_impl_spreadOf (some l) = some (sumN (spF l) l.length) ∧ t_spec_l19Spread (some l) = some (sumN (spF l) l.length) := by
  have w1 : wr ((l.length : Int) - 1) = ((l.length - 1 : Nat) : Int) := by rw [wr_id (by omega) (by omega)]; omega
  have w2 : wr (Int.tdiv ((l.length - 1 : Nat) : Int) 2) = (((l.length - 1) / 2 : Nat) : Int) := by
    have : Int.tdiv ((l.length - 1 : Nat) : Int) 2 = (((l.length - 1) / 2 : Nat) : Int) := by
      rw [Int.tdiv_eq_ediv_of_nonneg (by omega)]
      omega
    rw [this, wr_id (by omega) (by omega)]
  have gm := getI_nat (itAt_get (I := l) (k := (l.length - 1) / 2) (by omega))
  have sm := sumN_le (fun i => spF_v h i)
  have st : ∀ k, k < l.length → wr (itAt l k - itAt l ((l.length - 1) / 2)) = itAt l k - itAt l ((l.length - 1) / 2) ∧ wr (sumN (spF l) k + absI (itAt l k - itAt l ((l.length - 1) / 2))) = sumN (spF l) (k + 1) := fun k hk => by
    have a1 := itAt_v h k
    have a2 := itAt_v h ((l.length - 1) / 2)
    have a3 := sm k
    have a4 := spF_v h k
    have e : absI (itAt l k - itAt l ((l.length - 1) / 2)) = spF l k := rfl
    refine ⟨wr_id (by omega) (by omega), ?_⟩
    rw [e, wr_id (by omega) (by omega)]
    rfl
  have lp1 := loopT_at (step := s0_impl_spreadOf (some l) (itAt l ((l.length - 1) / 2))) l.length (fun k => (sumN (spF l) k, (k : Int))) (sumN (spF l) l.length) (fun k hk => by
    have c : (k : Int) < ((l.length : Nat) : Int) := by omega
    obtain ⟨s1, s2⟩ := st k hk
    unfold s0_impl_spreadOf
    simp only [Option.getD_some, c, decide_true, cond_true, getI_nat (itAt_get hk), obind_sm, s1, s2, wr_succ hk (show l.length ≤ 4294967296 by omega)])
    (by
      unfold s0_impl_spreadOf
      simp only [Option.getD_some, Int.lt_irrefl, decide_false, cond_false]) 0 (Nat.zero_le _)
  have lp2 := loopT_at (step := s0_spec_l19Spread (some l)) l.length (fun k => (sumN (spF l) k, (k : Int))) (sumN (spF l) l.length) (fun k hk => by
    have c : (k : Int) < ((l.length : Nat) : Int) := by omega
    obtain ⟨s1, s2⟩ := st k hk
    unfold s0_spec_l19Spread
    simp only [Option.getD_some, c, decide_true, cond_true, getI_nat (itAt_get hk), w1, w2, gm, obind_sm, s1, s2, wr_succ hk (show l.length ≤ 4294967296 by omega)])
    (by
      unfold s0_spec_l19Spread
      simp only [Option.getD_some, Int.lt_irrefl, decide_false, cond_false]) 0 (Nat.zero_le _)
  have lp1' : loopT (s0_impl_spreadOf (some l) (itAt l ((l.length - 1) / 2))) (0, 0) = some (sumN (spF l) l.length) := lp1
  have lp2' : loopT (s0_spec_l19Spread (some l)) (0, 0) = some (sumN (spF l) l.length) := lp2
  refine ⟨?_, ?_⟩
  · unfold t_impl_spreadOf
    simp only [Option.getD_some, w1, w2, gm, obind_sm, lp1']
  · unfold t_spec_l19Spread
    simp only [lp2', obind_sm]

theorem spread_v {l : List Int} (h : gapV l) (h2 : l.length ≤ 60) : 0 ≤ sumN (spF l) l.length ∧ sumN (spF l) l.length ≤ 245700 := by
  have := sumN_le (fun i => spF_v h i) l.length
  omega

/-- The cost of a place between two words. -/
def cutC (l : List Int) (k : Nat) : Int := sumN (spF (l.take k)) (l.take k).length + sumN (spF (l.drop k)) (l.drop k).length

/-- The best place among the first ones: none as yet (0), or the place. -/
def bestK (l : List Int) : Nat → Nat
  | 0 => 0
  | k + 1 => bif decide (itAt l k = itAt l (k + 1)) then bestK l k else bif decide (bestK l k = 0) || decide (cutC l (k + 1) < cutC l (bestK l k)) then k + 1 else bestK l k

theorem bestK_succ (l : List Int) (k : Nat) : bestK l (k + 1) = bif decide (itAt l k = itAt l (k + 1)) then bestK l k else bif decide (bestK l k = 0) || decide (cutC l (k + 1) < cutC l (bestK l k)) then k + 1 else bestK l k := rfl

theorem bestK_le (l : List Int) : ∀ k, bestK l k ≤ k
  | 0 => Nat.le_refl _
  | k + 1 => by
    have := bestK_le l k
    unfold bestK
    cases decide (itAt l k = itAt l (k + 1)) with
    | true => rw [cond_true]; omega
    | false =>
      rw [cond_false]
      cases decide (bestK l k = 0) || decide (cutC l (k + 1) < cutC l (bestK l k)) with
      | true => simp
      | false => rw [cond_false]; omega

theorem subS_to {A : Type} {l : List A} {t : Nat} (h2 : t ≤ l.length) : subS (some l) none (some (t : Int)) = some (some (l.take t)) := by
  have e1 : idx (iv (t : Int)) (l.length + 1) = some t := idx_lt (by omega)
  unfold subS bndI
  simp only [Option.getD_some, e1, obind_sm, Option.map_some, List.drop_zero]

theorem subS_from {A : Type} {l : List A} {f : Nat} (h2 : f ≤ l.length) : subS (some l) (some (f : Int)) none = some (some (l.drop f)) := by
  have e2 : idx (iv (f : Int)) (l.length + 1) = some f := idx_lt (by omega)
  unfold subS bndI
  simp only [Option.getD_some, e2, obind_sm, Option.map_some, List.take_length]

/-- The two sums at a place. -/
theorem cut_ok {l : List Int} (h : gapV l) (h2 : l.length ≤ 60) {k : Nat} (k0 : 0 < k) (hk : k < l.length) :
    t_impl_spreadOf (some (l.take k)) = some (sumN (spF (l.take k)) (l.take k).length) ∧ t_impl_spreadOf (some (l.drop k)) = some (sumN (spF (l.drop k)) (l.drop k).length) ∧
    t_spec_l19Spread (some (l.take k)) = some (sumN (spF (l.take k)) (l.take k).length) ∧ t_spec_l19Spread (some (l.drop k)) = some (sumN (spF (l.drop k)) (l.drop k).length) ∧
    wr (sumN (spF (l.take k)) (l.take k).length + sumN (spF (l.drop k)) (l.drop k).length) = cutC l k ∧ 0 ≤ cutC l k := by
  have v1 : gapV (l.take k) := fun x hx => h x (List.mem_of_mem_take hx)
  have v2 : gapV (l.drop k) := fun x hx => h x (List.mem_of_mem_drop hx)
  have l1 : (l.take k).length = k := by simp; omega
  have l2 : (l.drop k).length = l.length - k := by simp
  obtain ⟨a1, a2⟩ := spread_ok v1 (by omega) (by omega)
  obtain ⟨b1, b2⟩ := spread_ok v2 (by omega) (by omega)
  have c1 := spread_v v1 (by omega)
  have c2 := spread_v v2 (by omega)
  exact ⟨a1, b1, a2, b2, wr_id (by omega) (by omega), by unfold cutC; omega⟩

theorem implLim {l : List Int} (h : gapV l) (h2 : l.length ≤ 60) {c : Sl Int} (hc : Option.map sortI c = some l) : loopT (s0_impl_GapLimit c) (0, (-1), 1) = some (bif decide (bestK l (l.length - 1) = 0) then 0 else itAt l (bestK l (l.length - 1) - 1), bif decide (bestK l (l.length - 1) = 0) then -1 else cutC l (bestK l (l.length - 1))) := by
  have lp := loopT_at (step := s0_impl_GapLimit c) (l.length - 1) (fun k => (bif decide (bestK l k = 0) then 0 else itAt l (bestK l k - 1), bif decide (bestK l k = 0) then -1 else cutC l (bestK l k), ((k + 1 : Nat) : Int))) (bif decide (bestK l (l.length - 1) = 0) then 0 else itAt l (bestK l (l.length - 1) - 1), bif decide (bestK l (l.length - 1) = 0) then -1 else cutC l (bestK l (l.length - 1))) (fun k hk => by
    have c0 : ((k + 1 : Nat) : Int) < ((l.length : Nat) : Int) := by omega
    have w0 : wr (((k + 1 : Nat) : Int) - 1) = (k : Int) := by rw [wr_id (by omega) (by omega)]; omega
    have g0 := getI_nat (itAt_get (I := l) (k := k) (by omega))
    have g1 := getI_nat (itAt_get (I := l) (k := k + 1) (by omega))
    obtain ⟨q1, q2, _, _, q5, q6⟩ := cut_ok h h2 (k := k + 1) (by omega) (by omega)
    have bl := bestK_le l k
    unfold s0_impl_GapLimit
    rw [hc]
    simp only [Option.getD_some, c0, decide_true, cond_true, w0, g0, g1, obind_sm, subS_to (show k + 1 ≤ l.length by omega), subS_from (show k + 1 ≤ l.length by omega), q1, q2, q5, wr_succ (show k + 1 < l.length by omega) (show l.length ≤ 4294967296 by omega)]
    cases e : decide (itAt l k = itAt l (k + 1)) with
    | true =>
      have hb : bestK l (k + 1) = bestK l k := by rw [bestK_succ, e]; rfl
      simp only [cond_true, hb]
    | false =>
      simp only [cond_false]
      have hb : bestK l (k + 1) = bif decide (bestK l k = 0) || decide (cutC l (k + 1) < cutC l (bestK l k)) then k + 1 else bestK l k := by rw [bestK_succ, e]; rfl
      cases e2 : decide (bestK l k = 0) with
      | true =>
        have d1 : decide ((-1 : Int) < 0) = true := by decide
        have d2 : decide (k + 1 = 0) = false := by simp
        rw [e2, Bool.true_or, cond_true] at hb
        simp only [hb, cond_true, d1, obind_sm, Bool.true_or, d2, cond_false, Nat.add_sub_cancel]
      | false =>
        have p0 : 0 < bestK l k := by have := of_decide_eq_false e2; omega
        obtain ⟨_, _, _, _, _, q7⟩ := cut_ok h h2 (k := bestK l k) p0 (by omega)
        have d1 : decide (cutC l (bestK l k) < 0) = false := decide_eq_false (by omega)
        simp only [cond_false, d1, obind_sm]
        rw [e2, Bool.false_or] at hb
        cases e3 : decide (cutC l (k + 1) < cutC l (bestK l k)) with
        | true =>
          have d2 : decide (k + 1 = 0) = false := by simp
          rw [e3, cond_true] at hb
          simp only [cond_true, hb, d2, cond_false, Nat.add_sub_cancel]
        | false =>
          rw [e3, cond_false] at hb
          simp only [cond_false, hb, e2])
    (by
      unfold s0_impl_GapLimit
      rw [hc]
      have c0 : ¬ ((l.length - 1 + 1 : Nat) : Int) < ((l.length : Nat) : Int) := by omega
      simp only [Option.getD_some, c0, decide_false, cond_false]) 0 (Nat.zero_le _)
  exact lp

theorem specLim {l : List Int} (ha : Asc l) (h : gapV l) (h2 : l.length ≤ 60) : ∃ r, loopT (s2_spec_GapLimit (some l)) ((-1), 0, 1) = some r ∧ r = bif decide (bestK l (l.length - 1) = 0) then -1 else ((bestK l (l.length - 1) : Nat) : Int) := by
  refine ⟨_, ?_, rfl⟩
  have lp := loopT_at (step := s2_spec_GapLimit (some l)) (l.length - 1) (fun k => (bif decide (bestK l k = 0) then -1 else ((bestK l k : Nat) : Int), bif decide (bestK l k = 0) then 0 else cutC l (bestK l k), ((k + 1 : Nat) : Int))) (bif decide (bestK l (l.length - 1) = 0) then -1 else ((bestK l (l.length - 1) : Nat) : Int)) (fun k hk => by
    have c0 : ((k + 1 : Nat) : Int) < ((l.length : Nat) : Int) := by omega
    have w0 : wr (((k + 1 : Nat) : Int) - 1) = (k : Int) := by rw [wr_id (by omega) (by omega)]; omega
    have g0 := getI_nat (itAt_get (I := l) (k := k) (by omega))
    have g1 := getI_nat (itAt_get (I := l) (k := k + 1) (by omega))
    have le := asc_get ha (Nat.lt_succ_self k) (itAt_get (I := l) (k := k) (by omega)) (itAt_get (I := l) (k := k + 1) (by omega))
    obtain ⟨_, _, q1, q2, q5, q6⟩ := cut_ok h h2 (k := k + 1) (by omega) (by omega)
    have bl := bestK_le l k
    have lt : decide (itAt l k < itAt l (k + 1)) = !decide (itAt l k = itAt l (k + 1)) := by
      by_cases e : itAt l k = itAt l (k + 1)
      · simp [e]
      · have : itAt l k < itAt l (k + 1) := by omega
        simp [e, this]
    unfold s2_spec_GapLimit
    simp only [Option.getD_some, c0, decide_true, cond_true, w0, g0, g1, obind_sm, subS_to (show k + 1 ≤ l.length by omega), subS_from (show k + 1 ≤ l.length by omega), q1, q2, q5, lt, wr_succ (show k + 1 < l.length by omega) (show l.length ≤ 4294967296 by omega)]
    cases e : decide (itAt l k = itAt l (k + 1)) with
    | true =>
      have hb : bestK l (k + 1) = bestK l k := by rw [bestK_succ, e]; rfl
      simp only [Bool.not_true, cond_false, Bool.false_and, obind_sm, hb]
    | false =>
      simp only [Bool.not_false, cond_true, Bool.true_and, obind_sm]
      have hb : bestK l (k + 1) = bif decide (bestK l k = 0) || decide (cutC l (k + 1) < cutC l (bestK l k)) then k + 1 else bestK l k := by rw [bestK_succ, e]; rfl
      cases e2 : decide (bestK l k = 0) with
      | true =>
        have d1 : decide ((-1 : Int) < 0) = true := by decide
        have d2 : decide (k + 1 = 0) = false := by simp
        rw [e2, Bool.true_or, cond_true] at hb
        simp only [hb, cond_true, d1, obind_sm, Bool.not_true, cond_false, Bool.true_or, d2]
      | false =>
        have d1 : decide (((bestK l k : Nat) : Int) < 0) = false := decide_eq_false (by omega)
        simp only [cond_false, d1, obind_sm, Bool.not_false, cond_true]
        rw [e2, Bool.false_or] at hb
        cases e3 : decide (cutC l (k + 1) < cutC l (bestK l k)) with
        | true =>
          have d2 : decide (k + 1 = 0) = false := by simp
          rw [e3, cond_true] at hb
          simp only [cond_true, hb, d2, cond_false]
        | false =>
          rw [e3, cond_false] at hb
          simp only [cond_false, hb, e2])
    (by
      unfold s2_spec_GapLimit
      have c0 : ¬ ((l.length - 1 + 1 : Nat) : Int) < ((l.length : Nat) : Int) := by omega
      simp only [Option.getD_some, c0, decide_false, cond_false]) 0 (Nat.zero_le _)
  exact lp

theorem insPos {W G : List Int} (hW : Asc W) {i : Nat} (hi : i < G.length) (hl : W.length ≤ 2000000) : ∃ q : Nat, loopT (s1_spec_GapLimit (some G) (some W) (i : Int)) ((W.length : Nat) : Int) = some (q : Int) ∧ q ≤ W.length ∧
    (∀ j a, j < q → W[j]? = some a → a ≤ itAt G i) ∧ ∀ j a, q ≤ j → W[j]? = some a → itAt G i ≤ a := by
  have gi := getI_nat (itAt_get hi)
  obtain ⟨r, e, q, rfl, h1, h2, h3⟩ := loopT_ex (step := s1_spec_GapLimit (some G) (some W) (i : Int)) (fun k s => s = ((W.length - k : Nat) : Int) ∧ ∀ j a, W.length - k ≤ j → W[j]? = some a → itAt G i ≤ a) W.length
    (fun r => ∃ q : Nat, r = (q : Int) ∧ q ≤ W.length ∧ (∀ j a, j < q → W[j]? = some a → a ≤ itAt G i) ∧ ∀ j a, q ≤ j → W[j]? = some a → itAt G i ≤ a)
    (fun k s hk ⟨hs, hb⟩ => by
      subst hs
      have c0 : 0 < ((W.length - k : Nat) : Int) := by omega
      have w0 : wr (((W.length - k : Nat) : Int) - 1) = ((W.length - k - 1 : Nat) : Int) := by rw [wr_id (by omega) (by omega)]; omega
      have g0 := getI_nat (itAt_get (I := W) (k := W.length - k - 1) (by omega))
      unfold s1_spec_GapLimit
      simp only [Option.getD_some, c0, decide_true, cond_true, w0, g0, gi, obind_sm]
      cases e : decide (itAt G i < itAt W (W.length - k - 1)) with
      | true =>
        have e' := of_decide_eq_true e
        refine .inl ⟨_, rfl, by omega, fun j a hj ha => ?_⟩
        by_cases hj2 : W.length - k ≤ j
        · exact hb j a hj2 ha
        · have : j = W.length - k - 1 := by omega
          subst this
          rw [itAt_get (I := W) (k := W.length - k - 1) (by omega)] at ha
          cases ha
          omega
      | false =>
        have e' := of_decide_eq_false e
        refine .inr ⟨_, rfl, W.length - k, rfl, by omega, fun j a hj ha => ?_, hb⟩
        by_cases hj2 : j = W.length - k - 1
        · subst hj2
          rw [itAt_get (I := W) (k := W.length - k - 1) (by omega)] at ha
          cases ha
          omega
        · have := asc_get hW (i := j) (j := W.length - k - 1) (by omega) ha (itAt_get (I := W) (by omega))
          omega)
    (fun s ⟨hs, hb⟩ => by
      subst hs
      have c0 : ¬ 0 < ((W.length - W.length : Nat) : Int) := by omega
      unfold s1_spec_GapLimit
      simp only [c0, decide_false, cond_false, obind_sm]
      exact ⟨_, rfl, 0, by simp, by omega, fun j a hj => by omega, fun j a _ ha => hb j a (by omega) ha⟩)
    (s := ((W.length : Nat) : Int)) ⟨by simp, fun j a hj ha => by have := (List.getElem?_eq_some_iff.1 ha).1; omega⟩
  exact ⟨q, e, h1, h2, h3⟩

theorem own_ints (l : List Int) (h : l.length ≤ 2000000) : t_spec_l00Own (some l) = some (some l) := by
  have := appO_some (s := (some [] : Sl Int)) (l := l) (by simp; omega)
  unfold t_spec_l00Own
  simp only [Option.getD_some, this, obind_sm]
  rfl

theorem within_iff {x : Int} : within x 0 4095 = true ↔ 0 ≤ x ∧ x ≤ 4095 := by
  unfold within
  simp

theorem specSort {L : List Int} (hl : L.length ≤ 1048576) : (∃ W, loopT (s0_spec_GapLimit (some L)) ((some ([] : List Int)), 0) = some (.inl (some W)) ∧ Asc W ∧ W.Perm L ∧ gapV L) ∨ (loopT (s0_spec_GapLimit (some L)) ((some ([] : List Int)), 0) = some (.inr (0, 1)) ∧ ∃ x ∈ L, within x 0 4095 = false) := by
  obtain ⟨r, e, h⟩ := loopT_ex (step := s0_spec_GapLimit (some L)) (fun k s => ∃ W, s = (some W, (k : Int)) ∧ Asc W ∧ W.Perm (L.take k) ∧ gapV (L.take k)) L.length
    (fun r => (∃ W, r = .inl (some W) ∧ Asc W ∧ W.Perm L ∧ gapV L) ∨ (r = .inr (0, 1) ∧ ∃ x ∈ L, within x 0 4095 = false))
    (fun k s hk ⟨W, hs, ha, hp, hv⟩ => by
      subst hs
      have c0 : (k : Int) < ((L.length : Nat) : Int) := by omega
      have gk := itAt_get hk
      have lw : W.length = k := by rw [hp.length_eq]; simp; omega
      unfold s0_spec_GapLimit
      simp only [Option.getD_some, c0, decide_true, cond_true, getI_nat gk, obind_sm]
      have gp : t_spec_l19Gap (itAt L k) = some (within (itAt L k) 0 4095) := rfl
      rw [gp, obind_sm]
      cases e : within (itAt L k) 0 4095 with
      | false => exact .inr ⟨_, rfl, .inr ⟨rfl, itAt L k, List.mem_of_getElem? gk, e⟩⟩
      | true =>
        obtain ⟨q, e1, h1, h2, h3⟩ := insPos ha hk (by omega)
        have o1 := own_ints (W.take q) (by simp; omega)
        have a1 : appO (some (W.take q)) [itAt L k] = some (some (W.take q ++ [itAt L k])) := by
          rw [appO_big _ _ (by simp; omega)]
          rfl
        have a2 : appO (some (W.take q ++ [itAt L k])) (W.drop q) = some (some (W.take q ++ [itAt L k] ++ W.drop q)) := by
          rw [appO_some (by simp; omega)]
          rfl
        have a3 : appS (some (W.take q)) [itAt L k] = some (W.take q ++ [itAt L k]) := rfl
        have a4 : appS (some (W.take q ++ [itAt L k])) (W.drop q) = some (W.take q ++ [itAt L k] ++ W.drop q) := rfl
        simp only [Bool.not_true, cond_false, e1, obind_sm, subS_to h1, subS_from h1, o1, Option.getD_some, a1, a2, a3, a4, wr_succ hk (show L.length ≤ 4294967296 by omega)]
        refine .inl ⟨_, rfl, _, rfl, asc_ins ha h1 h2 h3, ?_, ?_⟩
        · refine perm_ins.trans ?_
          rw [List.take_succ_eq_append_getElem hk]
          have gk' : L[k] = itAt L k := by
            rw [List.getElem?_eq_getElem hk] at gk
            exact Option.some.inj gk
          rw [gk']
          exact (hp.cons _).trans (List.perm_append_singleton _ _).symm
        · intro x hx
          rw [List.take_succ_eq_append_getElem hk] at hx
          rcases List.mem_append.1 hx with hx | hx
          · exact hv x hx
          · have gk' : L[k] = itAt L k := by
              rw [List.getElem?_eq_getElem hk] at gk
              exact Option.some.inj gk
            rw [List.mem_singleton, gk'] at hx
            subst hx
            exact within_iff.1 e)
    (fun s ⟨W, hs, ha, hp, hv⟩ => by
      subst hs
      rw [List.take_length] at hp hv
      unfold s0_spec_GapLimit
      simp only [Option.getD_some, Int.lt_irrefl, decide_false, cond_false]
      exact ⟨_, rfl, .inl ⟨W, rfl, ha, hp, hv⟩⟩)
    (s := ((some ([] : List Int)), 0)) ⟨[], rfl, List.Pairwise.nil, by simp, by intro x hx; simp at hx⟩
  rcases h with ⟨W, rfl, h⟩ | ⟨rfl, h⟩
  · exact .inl ⟨W, e, h⟩
  · exact .inr ⟨e, h⟩

theorem contains_ok (p : Int → Option Bool) (f : Int → Bool) (hp : ∀ x, p x = some (f x)) (s : Sl Int) (hl : (s.getD []).length ≤ 4294967296) : t_slices_ContainsFunc_int64_int64 p s = some ((s.getD []).any f) := by
  have lp := loopT_first (step := s0_slices_IndexFunc_int64_int64 p s) (s.getD []) (fun k a => bif f a then some (k : Int) else none) (.inl ()) .inr
    (fun k a ha => by
      have hk := get_lt ha
      have c : (k : Int) < (((s.getD []).length : Nat) : Int) := by omega
      unfold s0_slices_IndexFunc_int64_int64
      simp only [c, decide_true, cond_true, getI_nat ha, obind_sm, wr_succ hk hl, hp]
      cases f a <;> rfl)
    (by
      unfold s0_slices_IndexFunc_int64_int64
      simp only [Int.lt_irrefl, decide_false, cond_false])
  have key : ∀ (l : List Int) (k : Nat), (firstL (fun (k : Nat) a => bif f a then some (k : Int) else none) l k = none ∧ l.any f = false) ∨ ∃ r, firstL (fun (k : Nat) a => bif f a then some (k : Int) else none) l k = some r ∧ 0 ≤ r ∧ l.any f = true := by
    intro l
    induction l with
    | nil => intro k; exact .inl ⟨rfl, rfl⟩
    | cons a l ih =>
      intro k
      unfold firstL
      rw [List.any_cons]
      cases e : f a with
      | false =>
        simp only [cond_false, Bool.false_or]
        exact ih (k + 1)
      | true => exact .inr ⟨(k : Int), rfl, by omega, rfl⟩
  unfold t_slices_ContainsFunc_int64_int64 t_slices_IndexFunc_int64_int64
  rw [lp]
  rcases key (s.getD []) 0 with ⟨h1, h2⟩ | ⟨r, h1, h2, h3⟩
  · rw [h1, h2]
    simp
  · rw [h1, h3]
    simp [h2]

theorem limit_ok (L : List Int) (hl : L.length ≤ 1048576) : ∃ c, t_impl_GapLimit (some L) = some c ∧ t_spec_GapLimit (some L) = some c := by
  have cf := contains_ok t_impl_GapLimit_1 (fun x => !within x 0 4095) (fun x => rfl) (some L) (by simp only [Option.getD_some]; omega)
  simp only [Option.getD_some] at cf
  unfold t_impl_GapLimit t_spec_GapLimit
  rw [cf, obind_sm]
  rcases specSort hl with ⟨W, e, ha, hp, hv⟩ | ⟨e, x, hx, hxv⟩
  · have an : L.any (fun x => !within x 0 4095) = false := by
      rw [List.any_eq_false]
      intro x hx
      have := within_iff.2 (hv x hx)
      simp [this]
    rw [an, e, obind_sm]
    simp only [cond_false, Option.getD_some]
    cases c1 : decide (60 < ((L.length : Nat) : Int)) with
    | true => exact ⟨_, rfl, rfl⟩
    | false =>
      have c1' := of_decide_eq_false c1
      have lW : W.length = L.length := hp.length_eq
      have hw : sortI L = W := asc_uniq (asc_sortI L) ha ((List.mergeSort_perm _ _).trans hp.symm)
      have vW : gapV W := fun x hx => hv x (hp.mem_iff.1 hx)
      have cl : t_slices_Clone_int64_int64 (some L) = some (some L) := by
        have := appO_some (s := (some [] : Sl Int)) (l := L) (by simp; omega)
        unfold t_slices_Clone_int64_int64
        simp only [Option.isNone_some, cond_false, Option.getD_some, this, obind_sm]
        rfl
      have so : sortO (some L) = some (some W) := by
        unfold sortO
        rw [if_pos (by simp only [Option.getD_some]; omega), Option.map_some, hw]
      have i1 := implLim vW (by omega) (c := some L) (by rw [Option.map_some, hw])
      obtain ⟨r, i2, i3⟩ := specLim ha vW (by omega)
      subst i3
      simp only [cond_false, cl, so, obind_sm, i1, i2]
      cases c2 : decide (bestK W (W.length - 1) = 0) with
      | true => exact ⟨_, rfl, rfl⟩
      | false =>
        have p0 : 0 < bestK W (W.length - 1) := by have := of_decide_eq_false c2; omega
        have bl := bestK_le W (W.length - 1)
        obtain ⟨_, _, _, _, _, q7⟩ := cut_ok vW (by omega) (k := bestK W (W.length - 1)) p0 (by omega)
        have d1 : decide (cutC W (bestK W (W.length - 1)) < 0) = false := decide_eq_false (by omega)
        have d2 : decide (((bestK W (W.length - 1) : Nat) : Int) < 0) = false := decide_eq_false (by omega)
        have w0 : wr (((bestK W (W.length - 1) : Nat) : Int) - 1) = ((bestK W (W.length - 1) - 1 : Nat) : Int) := by rw [wr_id (by omega) (by omega)]; omega
        have g0 := getI_nat (itAt_get (I := W) (k := bestK W (W.length - 1) - 1) (by omega))
        simp only [cond_false, d1, d2, w0, g0, obind_sm]
        exact ⟨_, rfl, rfl⟩
  · have an : L.any (fun x => !within x 0 4095) = true := by
      rw [List.any_eq_true]
      exact ⟨x, hx, by simp [hxv]⟩
    rw [an, e, obind_sm]
    exact ⟨_, rfl, rfl⟩

theorem true_FnExactGapLimit (a : Sl Int) (ha : (a.getD []).length ≤ maxLen) : t_laws_FnExactGapLimit a = some true := by
  rw [maxLen_eq] at ha
  unfold t_laws_FnExactGapLimit
  by_cases c0 : 1048576 < (((a.getD []).length : Nat) : Int)
  · have d0 : decide (1048576 < (((a.getD []).length : Nat) : Int)) = true := decide_eq_true c0
    rw [d0, cond_true]
  have d0 : decide (1048576 < (((a.getD []).length : Nat) : Int)) = false := decide_eq_false c0
  rw [d0, cond_false]
  have ti := toInt64S_ok a (by omega)
  obtain ⟨c, e1, e2⟩ := limit_ok (a.getD []) (by omega)
  have E := eqI_ok (a := some (a.getD [])) (b := some (a.getD [])) rfl (by simp only [Option.getD_some]; omega)
  simp only [ti, obind_sm, e1, e2, decide_true, Bool.not_true, cond_false, E]

theorem ok_laws_FnExactGapLimit : PureOK Try.prog n_laws_FnExactGapLimit (G1 (fun a : Sl Int => Wt.big a) fun _ => bv true) := lawC1 tt_laws_FnExactGapLimit fun a h => true_FnExactGapLimit a (big_len h)

theorem law_FnExactGapLimit (a : Sl Int) (ha : Row.fine a) : G1 (fun a : Sl Int => Wt.big a) (fun _ => bv true) [enc a] = some (bv true) := G1_enc _ _ a (Wt.fb a ha)

theorem isC_2 {cs : List AV} (h : IsC Try.prog 2 cs) : ∃ x : Int, cs = Row.cells x ∧ Row.fine x := by
  obtain ⟨n, rfl, hn⟩ := IsC.intE Try.underlying2 h
  exact ⟨n, rfl, fine_int hn⟩
theorem isC_22 {cs : List AV} (h : IsC Try.prog 22 cs) : ∃ x : (Sl Int), cs = Row.cells x ∧ Row.fine x := by
  rcases IsC.sliceE Try.underlying22 h with rfl | ⟨rows, rfl, h1, h2⟩
  · exact ⟨none, rfl, Sl.fineNil⟩
  · exact Sl.isC (by kernel_rfl) h1 fun row hr => isC_2 (h2 row hr)
theorem own : ownKnob Try.prog.godebug = none := by kernel_rfl
theorem laidOut : laidOutB Try.prog = true := by kernel_rfl

set_option maxRecDepth 100000 in
theorem holds : Rows.FnExactGapLimitSaid :=
  OpenClaim.holds_of_wide 3 Try.f3 rfl rfl rfl rfl rfl rfl rfl ⟨rfl, rfl, rfl, rfl, rfl⟩ rfl rfl rfl rfl rfl (by kernel_rfl) Try.func3 (by kernel_rfl)
    (of_decide_eq_true (by kernel_rfl)) (by unfold Func.isWrapper; rw [if_neg (by decide +kernel)]; exact ⟨rfl, rfl⟩)
    (fun os started H enc _ => law_lifted (C := Try.checked) (s := Rows.fnExactGapLimitSpec) own started (by kernel_rfl) Try.func3
      (ChangeSpec.witness6 (enc := enc) (C := Try.checked) false ⟨#[], #[.slice none 0 0], []⟩ 8 (by kernel_rfl) (by kernel_rfl) (by kernel_rfl) (by kernel_rfl))
      laidOut rfl (tb := 4) rfl Try.underlying4 (ts := [22, 2]) (by kernel_rfl)
      (fun ds h => by match ds, h with | [d0], _ => rfl)
      hb_laws_FnExactGapLimit ok_laws_FnExactGapLimit (by
    intro l h
    obtain ⟨a0, l0, rfl, g0, k0⟩ := h
    cases k0
    obtain ⟨b0, e0, w0⟩ := isC_22 (isV_one (by kernel_rfl) g0)
    obtain rfl := one_enc e0
    exact law_FnExactGapLimit b0 w0) (by kernel_rfl))
#print axioms holds
end Go.Proofs.Ytpmpdapafoifiaa
