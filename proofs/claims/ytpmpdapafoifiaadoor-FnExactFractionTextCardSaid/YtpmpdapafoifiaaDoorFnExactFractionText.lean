/-
  The law FnExactFractionText holds, for all arguments: it returns true, and its arguments read behind the call as before. No condition.
-/
import Derived.Test.YtpmpdapafoifiaaDoorFnExactFractionTextGen
import Derived.Test.YtpmpdapafoifiaaDoorRows
import Derived.Test.YtpmpdapafoifiaaDoorCards
import Derived.Test.YtpmpdapafoifiaaDoorTie
import Derived.SevenTiedAt
namespace Go.Proofs.YtpmpdapafoifiaaDoor
open Go Go.Eng Go.Eng.Cod
set_option maxRecDepth 100000
set_option linter.unusedVariables false
set_option linter.unusedSimpArgs false

theorem nil_ok : EnvOK Tryd.prog (envL []) := E0

def within (a b c : Int) : Bool := decide (b ≤ a) && decide (a ≤ c)

theorem ok_impl_within : PureOK Tryd.prog n_impl_within (T3 within) := pureT3 nil_ok mixed hb_impl_within fun a b c => by
  simp [e_impl_within, within]

theorem ok_spec_l00In : PureOK Tryd.prog n_spec_l00In (T3 within) := pureT3 nil_ok mixed hb_spec_l00In fun a b c => by
  simp [e_spec_l00In, within]

def absI (a : Int) : Int := bif decide (a < 0) then wr (-a) else a

theorem ok_impl_abs : PureOK Tryd.prog n_impl_abs (T1 absI) := pureT1 nil_ok mixed hb_impl_abs fun a => by
  simp [e_impl_abs, absI]

theorem ok_spec_l05Size : PureOK Tryd.prog n_spec_l05Size (T1 absI) := pureT1 nil_ok mixed hb_spec_l05Size fun a => by
  simp [e_spec_l05Size, absI]

def gcdI (a b : Int) : Int := if _h : b = 0 then a else gcdI b (a.tmod b)
termination_by b.natAbs
decreasing_by
  rw [Int.natAbs_tmod]
  exact Nat.mod_lt _ (by omega)
theorem gcdI_abs (a b : Int) : (gcdI a b).natAbs = Nat.gcd a.natAbs b.natAbs := by
  induction a, b using gcdI.induct with
  | case1 a => rw [gcdI]; simp
  | case2 a b h ih => 
    rw [gcdI, dif_neg h, ih, Int.natAbs_tmod, Nat.gcd_comm, ← Nat.gcd_rec, Nat.gcd_comm]
theorem gcdI_pos (a b : Int) (ha : 0 ≤ a) (hb : 0 ≤ b) : 0 ≤ gcdI a b := by
  induction a, b using gcdI.induct with
  | case1 a => rw [gcdI]; simpa using ha
  | case2 a b h ih => 
    rw [gcdI, dif_neg h]
    exact ih hb (Int.tmod_nonneg _ ha)
def gcdN (a b : Int) : Int := (Nat.gcd a.natAbs b.natAbs : Nat)
def small (n : Int) : Bool := decide (-4611686018427387904 ≤ n) && decide (n ≤ 4611686018427387904)
theorem small_iff (n : Int) : small n = true ↔ -4611686018427387904 ≤ n ∧ n ≤ 4611686018427387904 := by simp [small]
theorem gcdN_le (a b : Int) (ha : small a = true) (hb : small b = true) : (0 : Int) ≤ gcdN a b ∧ gcdN a b ≤ 4611686018427387904 := by
  rw [small_iff] at ha hb
  unfold gcdN
  refine ⟨by omega, ?_⟩
  by_cases h : b.natAbs = 0
  · rw [h, Nat.gcd_zero_right]; omega
  · have := Nat.gcd_le_right (n := b.natAbs) a.natAbs (by omega)
    omega
theorem abs_gcdI (a b : Int) (ha : small a = true) (hb : small b = true) : absI (gcdI a b) = gcdN a b := by
  have h1 := gcdI_abs a b
  have h2 := gcdN_le a b ha hb
  unfold absI gcdN at *
  rw [← h1] at h2 ⊢
  by_cases h : gcdI a b < 0
  · simp only [h, decide_true, cond_true]
    rw [wr_id] <;> omega
  · simp only [h, decide_false, cond_false]
    omega
theorem gcdI_gcdN (a b : Int) (ha : 0 ≤ a) (hb : 0 ≤ b) : gcdI a b = gcdN a b := by
  have h1 := gcdI_abs a b
  have h2 := gcdI_pos a b ha hb
  unfold gcdN
  rw [← h1]
  omega

theorem lp_impl_gcd (env : Nat → Contract) (y2 y3 y4 y11 y12 : AV) (h : Heap) (a b : Int) : (obind (loopP hm0_impl_gcd xm0_impl_gcd (lb0_impl_gcd env) [iv a, iv b, y2, y3, y4, .top, .top, .top, .top, .top, .top, y11, y12] h) fun r => lk0_impl_gcd env r.1 r.2.1 r.2.2)
    = obind2 (aCall (env n_impl_abs) [iv (gcdI a b)] h) fun v3 h4 => some (v3, h4) := by
  induction a, b using gcdI.induct with
  | case1 a =>
    rw [loopP.eq_1, gcdI]
    simp [e_lb0_impl_gcd, restr, e_lk0x0_impl_gcd]
  | case2 a b hb ih =>
    rw [loopP.eq_1, gcdI, dif_neg hb, ← ih]
    simp [e_lb0_impl_gcd, restr, hb, aBin_rem]
theorem ok_impl_gcd : PureOK Tryd.prog n_impl_gcd (G2 (fun a b => small a && small b) fun a b => iv (gcdN a b)) :=
  pureG2 (E1 ok_impl_abs) mixed hb_impl_gcd fun a b h => by
  simp at h
  simp [e_impl_gcd, lp_impl_gcd, envL, abs_gcdI, h]

theorem lp_spec_l22Gcd (env : Nat → Contract) (y2 y3 y4 y11 : AV) (h : Heap) (a b : Int) : (obind (loopP hm0_spec_l22Gcd xm0_spec_l22Gcd (lb0_spec_l22Gcd env) [iv a, iv b, y2, y3, y4, .top, .top, .top, .top, .top, .top, y11] h) fun r => lk0_spec_l22Gcd env r.1 r.2.1 r.2.2)
    = some (iv (gcdI a b), h) := by
  induction a, b using gcdI.induct with
  | case1 a =>
    rw [loopP.eq_1, gcdI]
    simp [e_lb0_spec_l22Gcd, restr, e_lk0x0_spec_l22Gcd]
  | case2 a b hb ih =>
    rw [loopP.eq_1, gcdI, dif_neg hb, ← ih]
    simp [e_lb0_spec_l22Gcd, restr, hb, aBin_rem]
theorem ok_spec_l22Gcd : PureOK Tryd.prog n_spec_l22Gcd (G2 (fun a b => decide (0 ≤ a) && decide (0 ≤ b)) fun a b => iv (gcdN a b)) :=
  pureG2 nil_ok mixed hb_spec_l22Gcd fun a b h => by
  simp at h
  simp [e_spec_l22Gcd, lp_spec_l22Gcd, gcdI_gcdN, h]

def validFraction (f : Frac) : Bool := within f.n (-1000000000) 1000000000 && (within f.d 1 1000000000 && decide (gcdN f.n f.d = 1))
theorem within_small {n b c : Int} (h : within n b c = true) (hb : -4611686018427387904 ≤ b) (hc : c ≤ 4611686018427387904) : small n = true := by
  simp [within] at h
  simp [small]
  omega
theorem ok_impl_ValidFraction : PureOK Tryd.prog n_impl_ValidFraction (T1 validFraction) :=
  pureT1 (E2 ok_impl_within ok_impl_gcd) mixed hb_impl_ValidFraction fun b => by
  simp [e_impl_ValidFraction, envL, aBox, aLoad, cut, validFraction]
  cases h1 : within b.n (-1000000000) 1000000000 <;> cases h2 : within b.d 1 1000000000 <;> simp
  simp [within_small h1 (by decide) (by decide), within_small h2 (by decide) (by decide)]
theorem absI_small {n : Int} (h : small n = true) : 0 ≤ absI n ∧ (absI n).natAbs = n.natAbs := by
  rw [small_iff] at h
  unfold absI
  by_cases hn : n < 0
  · simp only [hn, decide_true, cond_true]
    rw [wr_id] <;> omega
  · rw [show decide (n < 0) = false by simpa using hn]
    exact ⟨by simp; omega, rfl⟩
theorem gcdN_absI {n d : Int} (h : small n = true) : gcdN (absI n) d = gcdN n d := by
  unfold gcdN
  rw [(absI_small h).2]
theorem ok_spec_l22Ok : PureOK Tryd.prog n_spec_l22Ok (T1 validFraction) :=
  pureT1 (E3 ok_spec_l00In ok_spec_l05Size ok_spec_l22Gcd) mixed hb_spec_l22Ok fun b => by
  simp [e_spec_l22Ok, envL, aBox, aLoad, cut, validFraction]
  cases h1 : within b.n (-1000000000) 1000000000 <;> cases h2 : within b.d 1 1000000000 <;> simp [h1, h2]
  have h3 : small b.n = true := within_small h1 (by decide) (by decide)
  have h4 : 0 ≤ b.d := by simp [within] at h2; omega
  simp [absI_small h3, h4, gcdN_absI h3]

theorem ok_laws_toFraction : PureOK Tryd.prog n_laws_toFraction (T1 fun b : Frac => b) := pureT1 nil_ok mixed hb_laws_toFraction fun b => by
  simp [e_laws_toFraction, aBox, aLoad, cut, aStore, splice, retL, resL, pack]

theorem tt_strconv_FormatInt : PureOK Tryd.prog n_strconv_FormatInt (C2 (fun c : ByteArray => enc c) fmtO) :=
  pure_formatInt hb_strconv_FormatInt (by kernel_rfl) fun n h0 h1 w ht => Go.Proofs.Any.strconv_FormatInt_10 layFmt n h0 h1 w ht

def s0_spec_l01Dec : ((Sl UInt8) × Int) → Option (Sum ((Sl UInt8) × Int) (Sl UInt8)) := fun (w6, w9) =>
  bif !decide (w9 = 0) then
    bif decide ((Int.tmod w9 10) < 0) then
      obind (appO (some ([byteI (wr (48 + (wr (0 - Int.tmod w9 10))))] : List UInt8)) (w6.getD [])) fun _ =>
      some (.inl ((appS (some ([byteI (wr (48 + (wr (0 - Int.tmod w9 10))))] : List UInt8)) (w6.getD [])), wr (Int.tdiv w9 10)))
    else
      obind (appO (some ([byteI (wr (48 + (Int.tmod w9 10)))] : List UInt8)) (w6.getD [])) fun _ =>
      some (.inl ((appS (some ([byteI (wr (48 + (Int.tmod w9 10)))] : List UInt8)) (w6.getD [])), wr (Int.tdiv w9 10)))
  else
    some (.inr w6)
def t_spec_l01Dec (n_ : Int) : Option ByteArray :=
  obind (loopT s0_spec_l01Dec ((some ([] : List UInt8)), n_)) fun q13 =>
  bif decide ((((q13.getD []).length : Nat) : Int) = 0) then
    some (⟨#[48]⟩ : ByteArray)
  else
    bif decide (n_ < 0) then
      obind (catO (⟨#[45]⟩ : ByteArray) (strL (q13.getD []))) fun s18 =>
      some s18
    else
      some (strL (q13.getD []))

theorem tl0_spec_l01Dec (env : Nat → Contract) {B : Base}  (n_ : Int) (x1 : AV)  {st : (Sl UInt8) × Int} {tm : TM} {h : Heap} (R : (fun (st : (Sl UInt8) × Int) tm h7 => match st with | (w6, w9) => ∃ z5, tm = [iv n_, und, sv (⟨#[]⟩ : ByteArray), z5, iv w9, AV.top, x1, iv n_, AV.top, AV.top, AV.top, AV.top, AV.top, AV.top, AV.top, AV.top, AV.top, AV.top, AV.top, AV.top, AV.top, AV.top, AV.top, AV.top, und, und, und, und, und, und, und, und, und, und] ∧ Hold B h7 [(z5, obS (w6 : Sl UInt8))]) st tm h) : Sim (loopP hm0_spec_l01Dec xm0_spec_l01Dec (lb0_spec_l01Dec env) tm h) (loopT s0_spec_l01Dec st) (fun (q : Sl UInt8) (r : Res) => match q with | q13 => ∃ (q14 : Int) (z12 : AV) (z15 : AV) (h10 : Heap), r = (.exit 0, [iv n_, und, sv (⟨#[]⟩ : ByteArray), z12, iv q14, z15, x1, iv n_, AV.top, AV.top, AV.top, AV.top, AV.top, AV.top, AV.top, AV.top, AV.top, AV.top, AV.top, AV.top, AV.top, AV.top, AV.top, AV.top, und, und, und, und, und, und, und, und, und, und], h10) ∧ Hold B h10 [(z12, obS (q13 : Sl UInt8))]) := by
  refine loop_sim (Rel := fun (st : (Sl UInt8) × Int) tm h7 => match st with | (w6, w9) => ∃ z5, tm = [iv n_, und, sv (⟨#[]⟩ : ByteArray), z5, iv w9, AV.top, x1, iv n_, AV.top, AV.top, AV.top, AV.top, AV.top, AV.top, AV.top, AV.top, AV.top, AV.top, AV.top, AV.top, AV.top, AV.top, AV.top, AV.top, und, und, und, und, und, und, und, und, und, und] ∧ Hold B h7 [(z5, obS (w6 : Sl UInt8))]) (fun st tm h7 R => ?_) R
  obtain ⟨w6, w9⟩ := st
  obtain ⟨z5, rfl, O8⟩ := R
  rw [e_lb0_spec_l01Dec]
  unfold s0_spec_l01Dec
  dsimp only
  refine sim_let (v := bv (!decide (w9 = 0))) (aCmp_ne _ _) ?_
  refine sim_cond (fun c19 => ?_) (fun c19 => ?_)
  · refine sim_let (v := iv (Int.tmod w9 10)) (aBin_rem _ _ (by decide)) ?_
    refine sim_let (v := bv (decide ((Int.tmod w9 10) < 0))) (aBin_lss _ _) ?_
    refine sim_cond (fun c20 => ?_) (fun c20 => ?_)
    · refine sim_let (v := iv (wr (0 - Int.tmod w9 10))) (aUn_neg _) ?_
      refine sim_let (v := iv (wr (48 + (wr (0 - Int.tmod w9 10))))) (aBin_add _ _) ?_
      refine sim_let (v := bt (byteI (wr (48 + (wr (0 - Int.tmod w9 10)))))) (conv_u8 _) ?_
      refine sim_build (A := UInt8) O8 ([byteI (wr (48 + (wr (0 - Int.tmod w9 10))))] : List UInt8) rfl (by first | rfl | simp [aFillRows, zrows]) rfl (fun x21 h22 O23 => ?_)
      replace O23 : Hold B h22 [(z5, obS (w6 : Sl UInt8)), (x21, obS ((some ([byteI (wr (48 + (wr (0 - Int.tmod w9 10))))] : List UInt8)) : Sl UInt8))] := O23
      refine sim_append (A := UInt8) (s := (some ([byteI (wr (48 + (wr (0 - Int.tmod w9 10))))] : List UInt8))) O23 1 (w6.getD []) rfl (O23.src (A := UInt8) (s := w6) 0 rfl) (by decide) (fun x26 h27 O28 => ?_)
      replace O28 : Hold B h27 [(z5, obS (w6 : Sl UInt8)), (x26, obS ((appS (some ([byteI (wr (48 + (wr (0 - Int.tmod w9 10))))] : List UInt8)) (w6.getD [])) : Sl UInt8))] := O28
      refine sim_let (v := iv (wr (Int.tdiv w9 10))) (aBin_quo _ _ (by decide)) ?_
      have O30 : Hold B h27 [(x26, obS ((appS (some ([byteI (wr (48 + (wr (0 - Int.tmod w9 10))))] : List UInt8)) (w6.getD [])) : Sl UInt8))] := O28.sel [1] (by decide) rfl
      exact sim_ret ⟨rfl, _, rfl, O30⟩
    · refine sim_let (v := iv (wr (48 + (Int.tmod w9 10)))) (aBin_add _ _) ?_
      refine sim_let (v := bt (byteI (wr (48 + (Int.tmod w9 10))))) (conv_u8 _) ?_
      refine sim_build (A := UInt8) O8 ([byteI (wr (48 + (Int.tmod w9 10)))] : List UInt8) rfl (by first | rfl | simp [aFillRows, zrows]) rfl (fun x31 h32 O33 => ?_)
      replace O33 : Hold B h32 [(z5, obS (w6 : Sl UInt8)), (x31, obS ((some ([byteI (wr (48 + (Int.tmod w9 10)))] : List UInt8)) : Sl UInt8))] := O33
      refine sim_append (A := UInt8) (s := (some ([byteI (wr (48 + (Int.tmod w9 10)))] : List UInt8))) O33 1 (w6.getD []) rfl (O33.src (A := UInt8) (s := w6) 0 rfl) (by decide) (fun x36 h37 O38 => ?_)
      replace O38 : Hold B h37 [(z5, obS (w6 : Sl UInt8)), (x36, obS ((appS (some ([byteI (wr (48 + (Int.tmod w9 10)))] : List UInt8)) (w6.getD [])) : Sl UInt8))] := O38
      refine sim_let (v := iv (wr (Int.tdiv w9 10))) (aBin_quo _ _ (by decide)) ?_
      have O40 : Hold B h37 [(x36, obS ((appS (some ([byteI (wr (48 + (Int.tmod w9 10)))] : List UInt8)) (w6.getD [])) : Sl UInt8))] := O38.sel [1] (by decide) rfl
      exact sim_ret ⟨rfl, _, rfl, O40⟩
  · exact sim_ret ⟨nofun, _, _, _, _, rfl, O8⟩
theorem ts_spec_l01Dec (env : Nat → Contract)  (n_ : Int) : Sim (denFn Tryd.prog env n_spec_l01Dec [iv n_] []) (t_spec_l01Dec n_) fun c p => release p.2 depth p.1 = some ((fun c : ByteArray => enc c) c) := by
  have O := Hold.nil []
  generalize hB : (⟨[], []⟩ : Base) = B at O
  clear hB
  rw [e_spec_l01Dec]
  unfold t_spec_l01Dec
  refine sim_build (A := UInt8) O ([] : List UInt8) rfl (by first | rfl | simp [aFillRows, zrows]) rfl (fun x1 h2 O3 => ?_)
  replace O3 : Hold B h2 [(x1, obS ((some ([] : List UInt8)) : Sl UInt8))] := O3
  refine sim_bind ((tl0_spec_l01Dec env n_ x1) ⟨_, rfl, O3⟩) (fun qq43 r hq => ?_)
  revert hq
  revert qq43
  intro q13 hq
  obtain ⟨q14, z12, z15, h10, rfl, O11⟩ := hq
  rw [e_lk0x0_spec_l01Dec]
  refine sim_let (v := iv (((q13.getD []).length : Nat) : Int)) (O11.tab (A := UInt8) (s := q13) 0 rfl).len ?_
  refine sim_let (v := bv (decide ((((q13.getD []).length : Nat) : Int) = 0))) (aCmp_eq _ _) ?_
  refine sim_cond (fun c16 => ?_) (fun c16 => ?_)
  · exact sim_ret (release_plain (by rfl) _)
  · refine sim_let (v := bv (decide (n_ < 0))) (aBin_lss _ _) ?_
    refine sim_cond (fun c17 => ?_) (fun c17 => ?_)
    · refine sim_let (v := sv (strL (q13.getD []))) (conv_str (s := q13) (O11.src (A := UInt8) (s := q13) 0 rfl)) ?_
      refine sim_cat (fun s18 => ?_)
      exact sim_ret (release_plain (by rfl) _)
    · refine sim_let (v := sv (strL (q13.getD []))) (conv_str (s := q13) (O11.src (A := UInt8) (s := q13) 0 rfl)) ?_
      exact sim_ret (release_plain (by rfl) _)
theorem tt_spec_l01Dec : PureOK Tryd.prog n_spec_l01Dec (C1 (fun c : ByteArray => enc c) t_spec_l01Dec) := pureC1 E0 mixed hb_spec_l01Dec fun n_ => ts_spec_l01Dec _  n_

def t_spec_l22Text (f_ : Frac) : Option ByteArray :=
  bif decide (f_.d = 1) then
    obind (t_spec_l01Dec f_.n) fun c6 =>
    some c6
  else
    obind (t_spec_l01Dec f_.n) fun c7 =>
    obind (catO c7 (⟨#[47]⟩ : ByteArray)) fun s8 =>
    obind (t_spec_l01Dec f_.d) fun c9 =>
    obind (catO s8 c9) fun s10 =>
    some s10

theorem ts_spec_l22Text (env : Nat → Contract) (he_spec_l01Dec : env n_spec_l01Dec = .pure (C1 (fun c : ByteArray => enc c) t_spec_l01Dec)) (f_ : Frac) : Sim (denFn Tryd.prog env n_spec_l22Text [AV.agg [iv f_.n, iv f_.d]] []) (t_spec_l22Text f_) fun c p => release p.2 depth p.1 = some ((fun c : ByteArray => enc c) c) := by
  have O := Hold.nil []
  generalize hB : (⟨[], []⟩ : Base) = B at O
  clear hB
  rw [e_spec_l22Text]
  unfold t_spec_l22Text
  refine sim_box O (cs := [iv f_.n, iv f_.d]) (by first | rfl | simp) (fun o1 h2 O3 => ?_)
  replace O3 : Hold B h2 [(AV.ptr o1 1 0 0, .pt 2 [iv f_.n, iv f_.d])] := O3
  refine sim_let (v := AV.ptr o1 1 0 1) rfl ?_
  refine sim_let (v := iv f_.d) (O3.ld 0 rfl false 1 1) ?_
  refine sim_let (v := bv (decide (f_.d = 1))) (aCmp_eq _ _) ?_
  refine sim_cond (fun c5 => ?_) (fun c5 => ?_)
  · refine sim_let (v := AV.ptr o1 1 0 0) rfl ?_
    refine sim_let (v := iv f_.n) (O3.ld 0 rfl false 1 0) ?_
    refine sim_call1 he_spec_l01Dec (snapD_int _ _) (fun c6 => ?_)
    refine sim_let2 (hand_plain (by rfl) _ _) ?_
    exact sim_ret (release_plain (by rfl) _)
  · refine sim_let (v := AV.ptr o1 1 0 0) rfl ?_
    refine sim_let (v := iv f_.n) (O3.ld 0 rfl false 1 0) ?_
    refine sim_callQ1 he_spec_l01Dec (snapD_int _ _) (fun c7 => ?_)
    refine sim_let2 (hand_plain (by rfl) _ _) ?_
    refine sim_cat (fun s8 => ?_)
    refine sim_let (v := AV.ptr o1 1 0 1) rfl ?_
    refine sim_let (v := iv f_.d) (O3.ld 0 rfl false 1 1) ?_
    refine sim_callQ1 he_spec_l01Dec (snapD_int _ _) (fun c9 => ?_)
    refine sim_let2 (hand_plain (by rfl) _ _) ?_
    refine sim_cat (fun s10 => ?_)
    exact sim_ret (release_plain (by rfl) _)
theorem tt_spec_l22Text : PureOK Tryd.prog n_spec_l22Text (C1 (fun c : ByteArray => enc c) t_spec_l22Text) := pureC1 (Econs tt_spec_l01Dec E0) mixed hb_spec_l22Text fun f_ => ts_spec_l22Text _ (by simp [envL]) f_

def t_spec_FractionText (f_ : Frac) : Option ByteArray :=
  obind (some (validFraction f_)) fun c5 =>
  bif !c5 then
    some (⟨#[]⟩ : ByteArray)
  else
    obind (t_spec_l22Text f_) fun c7 =>
    some c7

theorem ts_spec_FractionText (env : Nat → Contract) (he_spec_l22Ok : env n_spec_l22Ok = .pure (T1 validFraction)) (he_spec_l22Text : env n_spec_l22Text = .pure (C1 (fun c : ByteArray => enc c) t_spec_l22Text)) (f_ : Frac) : Sim (denFn Tryd.prog env n_spec_FractionText [AV.agg [iv f_.n, iv f_.d]] []) (t_spec_FractionText f_) fun c p => release p.2 depth p.1 = some ((fun c : ByteArray => enc c) c) := by
  have O := Hold.nil []
  generalize hB : (⟨[], []⟩ : Base) = B at O
  clear hB
  rw [e_spec_FractionText]
  unfold t_spec_FractionText
  refine sim_box O (cs := [iv f_.n, iv f_.d]) (by first | rfl | simp) (fun o1 h2 O3 => ?_)
  replace O3 : Hold B h2 [(AV.ptr o1 1 0 0, .pt 2 [iv f_.n, iv f_.d])] := O3
  refine sim_let (v := AV.agg [iv f_.n, iv f_.d]) (O3.ld 0 rfl true 2 0) ?_
  refine sim_callV1 (t := validFraction) he_spec_l22Ok (snapD_nr _ f_ rfl) (fun c5 => ?_)
  refine sim_let (v := bv (!c5)) (aUn_not _) ?_
  refine sim_cond (fun c6 => ?_) (fun c6 => ?_)
  · exact sim_ret (release_plain (by rfl) _)
  · refine sim_let (v := AV.agg [iv f_.n, iv f_.d]) (O3.ld 0 rfl true 2 0) ?_
    refine sim_call1 he_spec_l22Text (snapD_nr _ f_ rfl) (fun c7 => ?_)
    refine sim_let2 (hand_plain (by rfl) _ _) ?_
    exact sim_ret (release_plain (by rfl) _)
theorem tt_spec_FractionText : PureOK Tryd.prog n_spec_FractionText (C1 (fun c : ByteArray => enc c) t_spec_FractionText) := pureC1 (Econs ok_spec_l22Ok (Econs tt_spec_l22Text E0)) mixed hb_spec_FractionText fun f_ => ts_spec_FractionText _ (by simp [envL]) (by simp [envL]) f_

def t_impl_Decimal (n_ : Int) : Option ByteArray :=
  obind (fmtO n_ 10) fun c1 =>
  some c1

theorem ts_impl_Decimal (env : Nat → Contract) (he_strconv_FormatInt : env n_strconv_FormatInt = .pure (C2 (fun c : ByteArray => enc c) fmtO)) (n_ : Int) : Sim (denFn Tryd.prog env n_impl_Decimal [iv n_] []) (t_impl_Decimal n_) fun c p => release p.2 depth p.1 = some ((fun c : ByteArray => enc c) c) := by
  have O := Hold.nil []
  generalize hB : (⟨[], []⟩ : Base) = B at O
  clear hB
  rw [e_impl_Decimal]
  unfold t_impl_Decimal
  refine sim_call2 he_strconv_FormatInt (snapD_int _ _) (snapD_int _ _) (fun c1 => ?_)
  refine sim_let2 (hand_plain (by rfl) _ _) ?_
  exact sim_ret (release_plain (by rfl) _)
theorem tt_impl_Decimal : PureOK Tryd.prog n_impl_Decimal (C1 (fun c : ByteArray => enc c) t_impl_Decimal) := pureC1 (Econs tt_strconv_FormatInt E0) mixed hb_impl_Decimal fun n_ => ts_impl_Decimal _ (by simp [envL]) n_

def t_impl_FractionText (f_ : Frac) : Option ByteArray :=
  obind (some (validFraction f_)) fun c5 =>
  bif !c5 then
    some (⟨#[]⟩ : ByteArray)
  else
    bif decide (f_.d = 1) then
      obind (t_impl_Decimal f_.n) fun c8 =>
      some c8
    else
      obind (t_impl_Decimal f_.n) fun c9 =>
      obind (catO c9 (⟨#[47]⟩ : ByteArray)) fun s10 =>
      obind (t_impl_Decimal f_.d) fun c11 =>
      obind (catO s10 c11) fun s12 =>
      some s12

theorem ts_impl_FractionText (env : Nat → Contract) (he_impl_Decimal : env n_impl_Decimal = .pure (C1 (fun c : ByteArray => enc c) t_impl_Decimal)) (he_impl_ValidFraction : env n_impl_ValidFraction = .pure (T1 validFraction)) (f_ : Frac) : Sim (denFn Tryd.prog env n_impl_FractionText [AV.agg [iv f_.n, iv f_.d]] []) (t_impl_FractionText f_) fun c p => release p.2 depth p.1 = some ((fun c : ByteArray => enc c) c) := by
  have O := Hold.nil []
  generalize hB : (⟨[], []⟩ : Base) = B at O
  clear hB
  rw [e_impl_FractionText]
  unfold t_impl_FractionText
  refine sim_box O (cs := [iv f_.n, iv f_.d]) (by first | rfl | simp) (fun o1 h2 O3 => ?_)
  replace O3 : Hold B h2 [(AV.ptr o1 1 0 0, .pt 2 [iv f_.n, iv f_.d])] := O3
  refine sim_let (v := AV.agg [iv f_.n, iv f_.d]) (O3.ld 0 rfl true 2 0) ?_
  refine sim_callV1 (t := validFraction) he_impl_ValidFraction (snapD_nr _ f_ rfl) (fun c5 => ?_)
  refine sim_let (v := bv (!c5)) (aUn_not _) ?_
  refine sim_cond (fun c6 => ?_) (fun c6 => ?_)
  · exact sim_ret (release_plain (by rfl) _)
  · refine sim_let (v := AV.ptr o1 1 0 1) rfl ?_
    refine sim_let (v := iv f_.d) (O3.ld 0 rfl false 1 1) ?_
    refine sim_let (v := bv (decide (f_.d = 1))) (aCmp_eq _ _) ?_
    refine sim_cond (fun c7 => ?_) (fun c7 => ?_)
    · refine sim_let (v := AV.ptr o1 1 0 0) rfl ?_
      refine sim_let (v := iv f_.n) (O3.ld 0 rfl false 1 0) ?_
      refine sim_call1 he_impl_Decimal (snapD_int _ _) (fun c8 => ?_)
      refine sim_let2 (hand_plain (by rfl) _ _) ?_
      exact sim_ret (release_plain (by rfl) _)
    · refine sim_let (v := AV.ptr o1 1 0 0) rfl ?_
      refine sim_let (v := iv f_.n) (O3.ld 0 rfl false 1 0) ?_
      refine sim_callQ1 he_impl_Decimal (snapD_int _ _) (fun c9 => ?_)
      refine sim_let2 (hand_plain (by rfl) _ _) ?_
      refine sim_cat (fun s10 => ?_)
      refine sim_let (v := AV.ptr o1 1 0 1) rfl ?_
      refine sim_let (v := iv f_.d) (O3.ld 0 rfl false 1 1) ?_
      refine sim_callQ1 he_impl_Decimal (snapD_int _ _) (fun c11 => ?_)
      refine sim_let2 (hand_plain (by rfl) _ _) ?_
      refine sim_cat (fun s12 => ?_)
      exact sim_ret (release_plain (by rfl) _)
theorem tt_impl_FractionText : PureOK Tryd.prog n_impl_FractionText (C1 (fun c : ByteArray => enc c) t_impl_FractionText) := pureC1 (Econs tt_impl_Decimal (Econs ok_impl_ValidFraction E0)) mixed hb_impl_FractionText fun f_ => ts_impl_FractionText _ (by simp [envL]) (by simp [envL]) f_

def t_laws_FnExactFractionText (aF_ : Frac) : Option Bool :=
  obind (some ((fun b : Frac => b) aF_)) fun c5 =>
  obind (t_spec_FractionText c5) fun c6 =>
  obind (some ((fun b : Frac => b) aF_)) fun c7 =>
  obind (t_impl_FractionText c7) fun c8 =>
  bif !decide (c8 = c6) then
    some false
  else
    some true

theorem ts_laws_FnExactFractionText (env : Nat → Contract) (he_impl_FractionText : env n_impl_FractionText = .pure (C1 (fun c : ByteArray => enc c) t_impl_FractionText)) (he_laws_toFraction : env n_laws_toFraction = .pure (T1 (fun b : Frac => b))) (he_spec_FractionText : env n_spec_FractionText = .pure (C1 (fun c : ByteArray => enc c) t_spec_FractionText)) (aF_ : Frac) : Sim (denFn Tryd.prog env n_laws_FnExactFractionText [AV.agg [iv aF_.n, iv aF_.d]] []) (t_laws_FnExactFractionText aF_) fun c p => release p.2 depth p.1 = some ((fun c : Bool => enc c) c) := by
  have O := Hold.nil []
  generalize hB : (⟨[], []⟩ : Base) = B at O
  clear hB
  rw [e_laws_FnExactFractionText]
  unfold t_laws_FnExactFractionText
  refine sim_box O (cs := [iv aF_.n, iv aF_.d]) (by first | rfl | simp) (fun o1 h2 O3 => ?_)
  replace O3 : Hold B h2 [(AV.ptr o1 1 0 0, .pt 2 [iv aF_.n, iv aF_.d])] := O3
  refine sim_let (v := AV.agg [iv aF_.n, iv aF_.d]) (O3.ld 0 rfl true 2 0) ?_
  refine sim_callV1 (t := (fun b : Frac => b)) he_laws_toFraction (snapD_nr _ aF_ rfl) (fun c5 => ?_)
  refine sim_call1 he_spec_FractionText (snapD_nr _ c5 rfl) (fun c6 => ?_)
  refine sim_let2 (hand_plain (by rfl) _ _) ?_
  refine sim_let (v := AV.agg [iv aF_.n, iv aF_.d]) (O3.ld 0 rfl true 2 0) ?_
  refine sim_callV1 (t := (fun b : Frac => b)) he_laws_toFraction (snapD_nr _ aF_ rfl) (fun c7 => ?_)
  refine sim_call1 he_impl_FractionText (snapD_nr _ c7 rfl) (fun c8 => ?_)
  refine sim_let2 (hand_plain (by rfl) _ _) ?_
  refine sim_let (v := bv (!decide (c8 = c6))) (aCmp_neS _ _) ?_
  refine sim_cond (fun c9 => ?_) (fun c9 => ?_)
  · exact sim_ret (release_plain (by rfl) _)
  · exact sim_ret (release_plain (by rfl) _)
theorem tt_laws_FnExactFractionText : PureOK Tryd.prog n_laws_FnExactFractionText (C1 (fun c : Bool => enc c) t_laws_FnExactFractionText) := pureC1 (Econs tt_impl_FractionText (Econs ok_laws_toFraction (Econs tt_spec_FractionText E0))) mixed hb_laws_FnExactFractionText fun aF_ => ts_laws_FnExactFractionText _ (by simp [envL]) (by simp [envL]) (by simp [envL]) aF_

def pt (l : List Point) (i : Nat) : Point := l.getD i ⟨0, 0, 0⟩

def d2 (a b : Point) : Int := (a.x - b.x) * (a.x - b.x) + (a.y - b.y) * (a.y - b.y)

/-- The digits of a number; none for 0. -/
def digs (m : Nat) : List UInt8 := if m = 0 then [] else Lib.decDigits m

theorem digs_step {m : Nat} (h : 0 < m) : digs m = digs (m / 10) ++ [UInt8.ofNat (48 + m % 10)] := by
  unfold digs
  rw [if_neg (by omega)]
  by_cases c : m < 10
  · rw [Lib.decDigits, dif_pos c, if_pos (by omega), Nat.mod_eq_of_lt c]
    rfl
  · rw [Lib.decDigits, dif_neg c, if_neg (by omega)]

theorem byteI_small {n : Nat} (h : n < 256) : byteI (n : Int) = UInt8.ofNat n := by
  have h1 : IntKind.u8.wrap (n : Int) = (n : Int) := by
    simp only [IntKind.wrap, IntKind.bits, IntKind.signed]
    simp only [Bool.false_and, Bool.false_eq_true, if_false]
    omega
  unfold byteI
  rw [h1]
  simp [Nat.toUInt8]

theorem decLoop : ∀ (f : Nat) (k : Int) (w : Sl UInt8), k.natAbs < 10 ^ f → -9223372036854775808 ≤ k → k ≤ 9223372036854775807 → (w.getD []).length + f ≤ 1000 → ∃ q, loopT s0_spec_l01Dec (w, k) = some q ∧ q.getD [] = digs k.natAbs ++ w.getD [] := by
  intro f
  induction f with
  | zero =>
    intro k w h _ _ _
    have hk : k = 0 := by simp at h; omega
    subst hk
    exact ⟨w, loopT_end (by unfold s0_spec_l01Dec; simp), by simp [digs]⟩
  | succ f ih =>
    intro k w h h1 h2 h3
    by_cases hk : k = 0
    · subst hk
      exact ⟨w, loopT_end (by unfold s0_spec_l01Dec; simp), by simp [digs]⟩
    · have hp : 10 ^ (f + 1) = 10 * 10 ^ f := by rw [Nat.pow_succ, Nat.mul_comm]
      obtain ⟨m, hm⟩ : ∃ m, k.natAbs = m := ⟨_, rfl⟩
      have m0 : 0 < m := by omega
      have ds := digs_step m0
      have bs := byteI_small (n := 48 + m % 10) (by omega)
      have hb : (((48 + m % 10 : Nat) : Int)) = 48 + ((m % 10 : Nat) : Int) := by omega
      have ap : appO (some ([UInt8.ofNat (48 + m % 10)] : List UInt8)) (w.getD []) = some (appS (some [UInt8.ofNat (48 + m % 10)]) (w.getD [])) := appO_some (by simp; omega)
      have d0 : decide (k = 0) = false := decide_eq_false hk
      have go : ∀ k' : Int, k'.natAbs = m / 10 → -9223372036854775808 ≤ k' → k' ≤ 9223372036854775807 → s0_spec_l01Dec (w, k) = some (.inl (appS (some [UInt8.ofNat (48 + m % 10)]) (w.getD []), k')) → ∃ q, loopT s0_spec_l01Dec (w, k) = some q ∧ q.getD [] = digs k.natAbs ++ w.getD [] := by
        intro k' e1 e2 e3 e4
        rw [loopT_next e4]
        obtain ⟨q, q1, q2⟩ := ih k' (appS (some [UInt8.ofNat (48 + m % 10)]) (w.getD [])) (by omega) e2 e3 (by rw [appS_getD]; simp; omega)
        refine ⟨q, q1, ?_⟩
        rw [q2, appS_getD, e1, hm, ds]
        simp
      rcases Int.natAbs_eq k with e | e
      · rw [hm] at e
        have t1 : Int.tmod k 10 = ((m % 10 : Nat) : Int) := by rw [e]; exact (Int.ofNat_tmod m 10).symm
        have t2 : Int.tdiv k 10 = ((m / 10 : Nat) : Int) := by rw [e]; exact (Int.ofNat_tdiv m 10).symm
        refine go ((m / 10 : Nat) : Int) (by omega) (by omega) (by omega) ?_
        have c1 : decide (((m % 10 : Nat) : Int) < 0) = false := decide_eq_false (by omega)
        unfold s0_spec_l01Dec
        simp only [d0, Bool.not_false, cond_true, t1, t2, c1, cond_false]
        rw [wr_id (by omega) (by omega), wr_id (by omega) (by omega), ← hb, bs, ap]
        rfl
      · rw [hm] at e
        have t1 : Int.tmod k 10 = -((m % 10 : Nat) : Int) := by rw [e, Int.neg_tmod]; exact congrArg _ (Int.ofNat_tmod m 10).symm
        have t2 : Int.tdiv k 10 = -((m / 10 : Nat) : Int) := by rw [e, Int.neg_tdiv]; exact congrArg _ (Int.ofNat_tdiv m 10).symm
        refine go (-((m / 10 : Nat) : Int)) (by omega) (by omega) (by omega) ?_
        unfold s0_spec_l01Dec
        simp only [d0, Bool.not_false, cond_true, t1, t2]
        have wq : wr (-((m / 10 : Nat) : Int)) = -((m / 10 : Nat) : Int) := wr_id (by omega) (by omega)
        rw [wq]
        by_cases c : m % 10 = 0
        · have c1 : decide (-((m % 10 : Nat) : Int) < 0) = false := decide_eq_false (by omega)
          have w1 : wr (48 + -((m % 10 : Nat) : Int)) = ((48 + m % 10 : Nat) : Int) := by rw [wr_id (by omega) (by omega)]; omega
          rw [c1, cond_false, w1, bs, ap]
          rfl
        · have c1 : decide (-((m % 10 : Nat) : Int) < 0) = true := decide_eq_true (by omega)
          have w0 : wr (0 - -((m % 10 : Nat) : Int)) = ((m % 10 : Nat) : Int) := by rw [wr_id (by omega) (by omega)]; omega
          have w1 : wr (48 + ((m % 10 : Nat) : Int)) = ((48 + m % 10 : Nat) : Int) := by rw [wr_id (by omega) (by omega)]; omega
          rw [c1, cond_true, w0, w1, bs, ap]
          rfl

theorem strL_app (a b : List UInt8) : strL a ++ strL b = strL (a ++ b) := by
  unfold strL
  apply ByteArray.ext
  simp

theorem strL_size (a : List UInt8) : (strL a).size = a.length := by
  unfold strL
  rfl

theorem catO_some {a b : ByteArray} (h : a.size + b.size ≤ 4294967296) : catO a b = some (a ++ b) := by
  unfold catO
  rw [if_pos (by omega)]

theorem digs_len : ∀ (f m : Nat), m < 10 ^ f → (digs m).length ≤ f
  | 0, m, h => by
    have : m = 0 := by simp at h; omega
    subst this
    simp [digs]
  | f + 1, m, h => by
    have hp : 10 ^ (f + 1) = 10 * 10 ^ f := by rw [Nat.pow_succ, Nat.mul_comm]
    by_cases m0 : m = 0
    · subst m0; simp [digs]
    · have := digs_len f (m / 10) (by omega)
      rw [digs_step (by omega)]
      simp
      omega

theorem digs_pos {m : Nat} (h : 0 < m) : 0 < (digs m).length := by
  rw [digs_step h]
  simp

theorem l01Dec_ok {n : Int} (h0 : -9223372036854775808 ≤ n) (h1 : n ≤ 9223372036854775807) : t_spec_l01Dec n = some (itS n) ∧ (itS n).size ≤ 20 := by
  obtain ⟨q, q1, q2⟩ := decLoop 19 n (some []) (by omega) h0 h1 (by simp)
  rw [Option.getD_some, List.append_nil] at q2
  have dl := digs_len 19 n.natAbs (by omega)
  unfold t_spec_l01Dec
  rw [q1, obind_sm, q2]
  by_cases c : n = 0
  · subst c
    refine ⟨?_, ?_⟩
    · have e : digs (Int.natAbs 0) = [] := rfl
      rw [e]
      have e2 : itS 0 = (⟨#[48]⟩ : ByteArray) := by
        unfold itS Lib.itoa
        rw [if_neg (by decide), Lib.decDigits, dif_pos (by decide)]
        rfl
      rw [e2]
      rfl
    · have e2 : itS 0 = (⟨#[48]⟩ : ByteArray) := by
        unfold itS Lib.itoa
        rw [if_neg (by decide), Lib.decDigits, dif_pos (by decide)]
        rfl
      rw [e2]
      decide
  · have p := digs_pos (m := n.natAbs) (by omega)
    have d1 : decide ((((digs n.natAbs).length : Nat) : Int) = 0) = false := decide_eq_false (by omega)
    have dd : digs n.natAbs = Lib.decDigits n.natAbs := by unfold digs; rw [if_neg (by omega)]
    rw [d1, cond_false]
    by_cases c2 : n < 0
    · have e2 : itS n = strL (45 :: digs n.natAbs) := by
        unfold itS Lib.itoa
        rw [if_pos c2, dd]
      have e3 : (⟨#[45]⟩ : ByteArray) = strL [45] := rfl
      rw [decide_eq_true c2, cond_true, e3, catO_some (by rw [strL_size, strL_size]; simp; omega), strL_app, obind_sm, e2]
      exact ⟨rfl, by rw [strL_size]; simp; omega⟩
    · have e2 : itS n = strL (digs n.natAbs) := by
        unfold itS Lib.itoa
        rw [if_neg c2, dd]
        have : n.toNat = n.natAbs := by omega
        rw [this]
      rw [decide_eq_false c2, cond_false, e2]
      exact ⟨rfl, by rw [strL_size]; omega⟩

theorem decimal_ok {n : Int} (h0 : -9223372036854775808 ≤ n) (h1 : n ≤ 9223372036854775807) : t_impl_Decimal n = some (itS n) := by
  unfold t_impl_Decimal fmtO
  rw [decide_eq_true h0, decide_eq_true h1]
  rfl

theorem validFraction_v {f : Frac} (h : validFraction f = true) : (-1000000000000 ≤ f.n ∧ f.n ≤ 1000000000000) ∧ (1 ≤ f.d ∧ f.d ≤ 1000000000000) := by
  unfold validFraction within at h
  simp only [Bool.and_eq_true, decide_eq_true_eq] at h
  omega

theorem true_FnExactFractionText (f : Frac) : t_laws_FnExactFractionText f = some true := by
  unfold t_laws_FnExactFractionText t_spec_FractionText t_impl_FractionText t_spec_l22Text
  simp only [obind_sm]
  cases hv : validFraction f with
  | false =>
    simp only [Bool.not_false, cond_true, obind_sm, decide_true, Bool.not_true, cond_false]
  | true =>
    obtain ⟨⟨n1, n2⟩, d1, d2⟩ := validFraction_v hv
    obtain ⟨a1, a2⟩ := l01Dec_ok (n := f.n) (by omega) (by omega)
    obtain ⟨b1, b2⟩ := l01Dec_ok (n := f.d) (by omega) (by omega)
    have a3 := decimal_ok (n := f.n) (by omega) (by omega)
    have b3 := decimal_ok (n := f.d) (by omega) (by omega)
    have c1 : catO (itS f.n) (⟨#[47]⟩ : ByteArray) = some (itS f.n ++ ⟨#[47]⟩) := catO_some (by have : (⟨#[47]⟩ : ByteArray).size = 1 := rfl; omega)
    have c2 : catO (itS f.n ++ (⟨#[47]⟩ : ByteArray)) (itS f.d) = some (itS f.n ++ ⟨#[47]⟩ ++ itS f.d) := catO_some (by
      have : (⟨#[47]⟩ : ByteArray).size = 1 := rfl
      rw [ByteArray.size_append]
      omega)
    simp only [Bool.not_true, cond_false, a1, b1, a3, b3, c1, c2, obind_sm]
    cases decide (f.d = 1) <;> simp

theorem ok_laws_FnExactFractionText : PureOK Tryd.prog n_laws_FnExactFractionText (G1 (fun _ : Frac => true) fun _ => bv true) := lawC1 tt_laws_FnExactFractionText fun a _ => true_FnExactFractionText a

theorem law_FnExactFractionText (a : Frac) (_ : Row.fine a) : G1 (fun _ : Frac => true) (fun _ => bv true) [enc a] = some (bv true) := G1_enc _ _ a rfl

theorem isC_2 {cs : List AV} (h : IsC Tryd.prog 2 cs) : ∃ x : Int, cs = Row.cells x ∧ Row.fine x := by
  obtain ⟨n, rfl, hn⟩ := IsC.intE Tryd.underlying2 h
  exact ⟨n, rfl, fine_int hn⟩
theorem isC_23 {cs : List AV} (h : IsC Tryd.prog 23 cs) : ∃ x : Frac, cs = Row.cells x ∧ Row.fine x := by
  replace h := IsC.structE Tryd.underlying23 h
  obtain ⟨c0, r0, rfl, q0, k0⟩ := IsFs.consE h
  obtain ⟨c1, r1, rfl, q1, k1⟩ := IsFs.consE k0
  cases IsFs.nilE k1
  obtain ⟨v0, rfl, w0⟩ := isC_2 q0
  obtain ⟨v1, rfl, w1⟩ := isC_2 q1
  exact ⟨⟨v0, v1⟩, rfl, w0, w1⟩
theorem own : ownKnob Tryd.prog.godebug = none := by kernel_rfl
theorem laidOut : laidOutB Tryd.prog = true := by kernel_rfl

theorem door_met (os : Os) (args : Array Value) : laidMetH Tryd.prog Rows.fnExactFractionTextRow.laid ((World.doorLaid Tryd.prog 24 os).forCall (fun _ _ => 0) ⟨#[], args, []⟩).memory :=
  laidMetH_of_parts3 (fuel := 8) (laidMet_of_run' 8 (by kernel_rfl) (by kernel_rfl)) (by kernel_rfl) (by kernel_rfl)
theorem globs {W : World} (h : laidMetH Tryd.prog Rows.fnExactFractionTextRow.laid W) : Glob Tryd.prog W := by
  exact glob_laid (Rows.fnExactFractionTextRow.laid.getD 0 ("", .nil)) (Rows.fnExactFractionTextRow.laid.getD 1 ("", .nil)) (g := 0) (t := 115) (e := 107) (n := 20) (by kernel_rfl) (by kernel_rfl) Tryd.underlying115 Tryd.underlying107 (by kernel_rfl) (by kernel_rfl) (by kernel_rfl) (by kernel_rfl) h
set_option maxRecDepth 100000 in
theorem rowHolds : Rows.FnExactFractionTextSaid :=
  OpenClaim.holds_of_wide 3 Tryd.f3 rfl rfl rfl rfl rfl rfl rfl ⟨rfl, rfl, rfl, rfl, rfl⟩ rfl rfl rfl rfl rfl (by kernel_rfl) Tryd.func3 (by kernel_rfl)
    (of_decide_eq_true (by kernel_rfl)) (by unfold Func.isWrapper; rw [if_neg (by decide +kernel)]; exact ⟨rfl, rfl⟩)
    (fun os started H enc _ => law_door (C := Tryd.checked) (s := Rows.fnExactFractionTextSpec) (laid := Rows.fnExactFractionTextRow.laid) own started (by kernel_rfl) Tryd.func3
      (ChangeSpec.witness_shaped (enc := enc) (C := Tryd.checked) (os := os) (X := fun w _ => laidMetH Tryd.prog Rows.fnExactFractionTextRow.laid w) false (World.doorLaid Tryd.prog 24 os) #[.agg #[.int .i64 0, .int .i64 0]] 8 rfl (World.shaped_of_RefB (by kernel_rfl) (by kernel_rfl)) (by kernel_rfl) (by kernel_rfl) (by kernel_rfl) (door_met os _))
      laidOut rfl (tb := 4) rfl Tryd.underlying4 (ts := [23, 2]) (by kernel_rfl)
      (fun ds h => by match ds, h with | [d0], _ => rfl)
      hb_laws_FnExactFractionText ok_laws_FnExactFractionText (by
    intro l h
    obtain ⟨a0, l0, rfl, g0, k0⟩ := h
    cases k0
    obtain ⟨c0, rfl, m0⟩ := IsV.structE Tryd.underlying23 g0
    obtain ⟨b0, rfl, w0⟩ := isC_23 m0
    exact law_FnExactFractionText b0 w0) (fun W h => globs h))
theorem holds : Rows.FnExactFractionTextCardSaid :=
  Claim7.holds_tied_plain_at .later [] [.data, .data, .data] true (true, "06c659af40a7d8bd802c46636cd764905053aac54cd6b2a56434c006b057179e") false
    rowHolds (fun _ h => by cases h) (by kernel_rfl) (fun _ h => by cases h) fnExactFractionText_row_tie rfl ⟨rfl, rfl⟩ (by kernel_rfl) rfl
    (fun f fn hf hfn => by
      obtain rfl : f = 3 := Option.some.inj ((show Tryd.prog.funcNamed Rows.fnExactFractionTextRow.func = some 3 by kernel_rfl).symm.trans hf) |>.symm
      obtain rfl : fn = Tryd.f3 := (Option.some.inj (Tryd.func3.symm.trans hfn)).symm
      exact ⟨by kernel_rfl, fun j t ht => by
        rw [Tryd.params3] at ht
        have hm : t ∈ [23] := by simpa using Array.mem_of_getElem? ht
        have hall : ([23].all fun u => !Tryd.prog.wantsStandIn u) = true := by kernel_rfl
        exact (show Tryd.prog.wantsStandIn t = false by simpa using List.all_eq_true.1 hall t hm)⟩)
    (by kernel_rfl)
#print axioms holds
end Go.Proofs.YtpmpdapafoifiaaDoor
