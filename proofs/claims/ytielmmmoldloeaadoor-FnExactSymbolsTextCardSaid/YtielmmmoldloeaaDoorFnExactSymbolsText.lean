/-
  The law FnExactSymbolsText holds, for all arguments: it returns true, and its arguments read behind the call as before. No condition.
-/
import Derived.Test.YtielmmmoldloeaaDoorFnExactSymbolsTextGen
import Derived.Test.YtielmmmoldloeaaDoorRows
import Derived.Test.YtielmmmoldloeaaDoorCards
import Derived.Test.YtielmmmoldloeaaDoorTie
import Derived.SevenTiedAt
namespace Go.Proofs.YtielmmmoldloeaaDoor
open Go Go.Eng Go.Eng.Cod
set_option maxRecDepth 100000
set_option linter.unusedVariables false
set_option linter.unusedSimpArgs false

theorem nil_ok : EnvOK Tryd.prog (envL []) := E0

def within (a b c : Int) : Bool := decide (b ≤ a) && decide (a ≤ c)

theorem ok_impl_within : PureOK Tryd.prog n_impl_within (T3 within) := pureT3 nil_ok mixed hb_impl_within fun a b c => by
  simp [e_impl_within, within]

theorem ok_spec_l00In : PureOK Tryd.prog n_spec_l00In (T3 within) := pureT3 nil_ok mixed hb_spec_l00In fun a b c => by
  simp [e_spec_l00In, within]

def validBox (b : Box) : Bool := within b.x1 0 b.x2 && within b.y1 0 b.y2 && decide (b.x2 ≤ 4095) && decide (b.y2 ≤ 4095)

theorem ok_impl_ValidBox : PureOK Tryd.prog n_impl_ValidBox (T1 validBox) :=
  pureT1 (E1 ok_impl_within) mixed hb_impl_ValidBox fun b => by
  simp [e_impl_ValidBox, envL, aBox, aLoad, cut, validBox]

theorem ok_spec_l02Box : PureOK Tryd.prog n_spec_l02Box (T1 validBox) :=
  pureT1 (E1 ok_spec_l00In) mixed hb_spec_l02Box fun b => by
  simp [e_spec_l02Box, envL, aBox, aLoad, cut, validBox]

theorem ok_laws_toBox : PureOK Tryd.prog n_laws_toBox (T1 fun b : Box => b) := pureT1 nil_ok mixed hb_laws_toBox fun b => by
  simp [e_laws_toBox, aBox, aLoad, cut, aStore, splice, retL, resL, pack]

theorem ok_laws_eqBox : PureOK Tryd.prog n_laws_eqBox (T2 fun a b : Box => decide (a = b)) := pureT2 nil_ok mixed hb_laws_eqBox fun a b => by
  simp [e_laws_eqBox, aBox, aLoad, cut]
  obtain ⟨a1, a2, a3, a4⟩ := a
  obtain ⟨b1, b2, b3, b4⟩ := b
  simp

theorem ok_laws_toSymbol : PureOK Tryd.prog n_laws_toSymbol (T1 fun b : Symbol => b) := pureT1 (E1 ok_laws_toBox) mixed hb_laws_toSymbol fun b => by
  simp [e_laws_toSymbol, envL, aBox, aLoad, cut, aStore, splice, retL, resL, pack]

theorem ok_laws_eqSymbol : PureOK Tryd.prog n_laws_eqSymbol (T2 fun a b : Symbol => decide (a = b)) := pureT2 (E1 ok_laws_eqBox) mixed hb_laws_eqSymbol fun a b => by
  simp [e_laws_eqSymbol, envL, aBox, aLoad, cut]
  obtain ⟨a0, a1⟩ := a
  obtain ⟨b0, b1⟩ := b
  simp

def names : List ByteArray := [⟨#[110, 111, 110, 101]⟩, ⟨#[114, 105, 103, 104, 116]⟩, ⟨#[97, 98, 111, 118, 101]⟩, ⟨#[98, 101, 108, 111, 119]⟩, ⟨#[117, 112, 112, 101, 114]⟩, ⟨#[108, 111, 119, 101, 114]⟩, ⟨#[105, 110, 115, 105, 100, 101]⟩]
@[simp] theorem names_len : names.length = 7 := rfl

def find (s : ByteArray) : List ByteArray → Nat → Int
  | [], _ => -1
  | x :: r, i => bif decide (x = s) then (i : Int) else find s r (i + 1)
def relationNamed (s : ByteArray) : Int × Int := bif decide (find s names 0 < 0) then (0, 3) else (find s names 0, 0)
theorem find_pos (s : ByteArray) : ∀ (l : List ByteArray) (i : Nat), find s l i = -1 ∨ 0 ≤ find s l i
  | [], _ => .inl rfl
  | x :: r, i => by
    unfold find
    cases decide (x = s)
    · simpa using find_pos s r (i + 1)
    · right; simp

def isLow (b : UInt8) : Bool := decide ((97 : Int) ≤ (b.toNat : Int)) && decide ((b.toNat : Int) ≤ 122)

theorem ok_impl_isLetter : PureOK Tryd.prog n_impl_isLetter (T1 isLow) := pureT1 E0 mixed hb_impl_isLetter fun b => by
  simp [e_impl_isLetter, isLow]

theorem ok_spec_l01Small : PureOK Tryd.prog n_spec_l01Small (T1 isLow) := pureT1 E0 mixed hb_spec_l01Small fun b => by
  simp [e_spec_l01Small, isLow]

theorem ok_internal_bytealg_IndexByteString : PureOK Tryd.prog n_internal_bytealg_IndexByteString (T2 indexB) :=
  pure_indexByte (fn := Tryd.f131) Tryd.func131 (by kernel_rfl) (by kernel_rfl) (by kernel_rfl) (by kernel_rfl)

theorem ok_internal_stringslite_IndexByte : PureOK Tryd.prog n_internal_stringslite_IndexByte (T2 indexB) := pureT2 (E1 ok_internal_bytealg_IndexByteString) mixed hb_internal_stringslite_IndexByte fun s b => by
  simp [e_internal_stringslite_IndexByte, envL]

def byte0 (t : ByteArray) : UInt8 := (bl t).headD 0
theorem one_byte {t : ByteArray} (h : t.size = 1) : bl t = [byte0 t] := by
  have : (bl t).length = 1 := by rw [bl_len, h]
  match hb : bl t, this with
  | [b], _ => simp [byte0, hb]
theorem ok_internal_stringslite_Index : PureOK Tryd.prog n_internal_stringslite_Index (G2 (fun _ t : ByteArray => decide (t.size = 1)) fun s t => iv (indexB s (byte0 t))) :=
  pureG2 (E1 ok_internal_stringslite_IndexByte) mixed hb_internal_stringslite_Index fun s t h => by
  have h1 : t.size = 1 := of_decide_eq_true h
  have h2 : aLenK .str (sv t) = some (iv 1) := by rw [aLenK_str, h1]; rfl
  have h3 : aCmp .eql .plain (iv 1) (iv 0) = some (bv false) := rfl
  have h4 : aCmp .eql .plain (iv 1) (iv 1) = some (bv true) := rfl
  have h5 : aIndexStr (sv t) (iv 0) = some (bt (byte0 t)) := by
    rw [idx_str, h1, one_byte h1]
    rfl
  rw [e_internal_stringslite_Index]
  simp only [enc_str, h2, obind_sm, h3, guardB_false, cond_false, aCmp_eqS, obind2_sm, aPick_bv, condB_bv]
  by_cases e : t = s
  · subst e
    have e0 : indexB t (byte0 t) = 0 := by
      obtain ⟨⟨l⟩⟩ := t
      match l, h1 with
      | [b], _ => 
        show (match (List.range 1).find? (fun i => (⟨#[b]⟩ : ByteArray)[i]! == b) with | some i => (i : Int) | none => -1) = 0
        have : ((⟨#[b]⟩ : ByteArray)[0]! == b) = true := by
          have : (⟨#[b]⟩ : ByteArray)[0]! = b := rfl
          rw [this]
          simp
        simp [List.range_succ, this]
    simp only [decide_true, cond_true, obind_sm, release_iv, e0]
  · simp only [e, decide_false, cond_false, h4, obind_sm, cond_true, h5]
    simp [envL]

theorem ok_strings_Index : PureOK Tryd.prog n_strings_Index (G2 (fun _ t : ByteArray => decide (t.size = 1)) fun s t => iv (indexB s (byte0 t))) :=
  pureG2 (E1 ok_internal_stringslite_Index) mixed hb_strings_Index fun s t h => by
  simp [e_strings_Index, envL, of_decide_eq_true h]

theorem ok_strings_Contains : PureOK Tryd.prog n_strings_Contains (G2 (fun _ t : ByteArray => decide (t.size = 1)) fun s t => bv (decide (0 ≤ indexB s (byte0 t)))) :=
  pureG2 (E1 ok_strings_Index) mixed hb_strings_Contains fun s t h => by
  simp [e_strings_Contains, envL, of_decide_eq_true h]

def labelB (b : UInt8) : Bool := decide ((b.toNat : Int) = 43) || (decide ((b.toNat : Int) = 45) || (decide ((b.toNat : Int) = 42) || (decide ((b.toNat : Int) = 47) || (decide ((b.toNat : Int) = 61) || (decide ((b.toNat : Int) = 40) || (decide ((b.toNat : Int) = 41) || (decide ((b.toNat : Int) = 46) || (decide ((b.toNat : Int) = 44) ||
  (isLow b || (decide ((48 : Int) ≤ (b.toNat : Int)) && decide ((b.toNat : Int) ≤ 57)))))))))))
def labelSet : ByteArray := ⟨#[48, 49, 50, 51, 52, 53, 54, 55, 56, 57, 43, 45, 42, 47, 61, 40, 41, 46, 44]⟩
theorem label_all : ∀ n : Fin 256, (isLow (UInt8.ofNat n.val) || decide (0 ≤ indexB labelSet (UInt8.ofNat n.val))) = labelB (UInt8.ofNat n.val) := by decide +kernel
theorem label_eq (b : UInt8) : (isLow b || decide (0 ≤ indexB labelSet b)) = labelB b := by
  have := label_all ⟨b.toNat, b.toNat_lt⟩
  simpa using this
def isLabel (s : ByteArray) : Bool := decide (s.size = 1) && labelB (byte0 s)

theorem ok_spec_l11Label : PureOK Tryd.prog n_spec_l11Label (T1 labelB) := pureT1 (E1 ok_spec_l01Small) mixed hb_spec_l11Label fun b => by
  cases hw : isLow b <;> simp [e_spec_l11Label, envL, labelB, hw]
  all_goals cases decide ((48 : Int) ≤ (b.toNat : Int)) <;> simp
  all_goals
    congr 1
    generalize decide ((b.toNat : Int) = 43) = c43
    generalize decide ((b.toNat : Int) = 45) = c45
    generalize decide ((b.toNat : Int) = 42) = c42
    generalize decide ((b.toNat : Int) = 47) = c47
    generalize decide ((b.toNat : Int) = 61) = c61
    generalize decide ((b.toNat : Int) = 40) = c40
    generalize decide ((b.toNat : Int) = 41) = c41
    generalize decide ((b.toNat : Int) = 46) = c46
    generalize decide ((b.toNat : Int) = 44) = c44
    generalize decide ((b.toNat : Int) ≤ 57) = d
    revert c43 c45 c42 c47 c61 c40 c41 c46 c44 d
    decide +kernel

theorem ok_impl_IsLabel : PureOK Tryd.prog n_impl_IsLabel (T1 isLabel) := pureT1 (E2 ok_impl_isLetter ok_strings_Contains) mixed hb_impl_IsLabel fun s => by
  by_cases h1 : s.size = 1
  · have h5 : aIndexStr (sv s) (iv 0) = some (bt (byte0 s)) := by
      rw [idx_str, h1, one_byte h1]
      rfl
    have hl := label_eq (byte0 s)
    unfold labelSet at hl
    cases hw : isLow (byte0 s)
    · rw [hw] at hl
      simp at hl
      simp [e_impl_IsLabel, envL, h5, h1, hw, isLabel, hl]
    · rw [hw] at hl
      simp at hl
      simp [e_impl_IsLabel, envL, h5, h1, hw, isLabel, hl]
  · have h2 : ¬ ((s.size : Nat) : Int) = 1 := by omega
    simp [e_impl_IsLabel, h2, h1, isLabel]

theorem ok_spec_IsLabel : PureOK Tryd.prog n_spec_IsLabel (T1 isLabel) := pureT1 (E1 ok_spec_l11Label) mixed hb_spec_IsLabel fun s => by
  by_cases h1 : s.size = 1
  · have h5 : aIndexStr (sv s) (iv 0) = some (bt (byte0 s)) := by
      rw [idx_str, h1, one_byte h1]
      rfl
    simp [e_spec_IsLabel, envL, h5, h1, isLabel]
  · have h2 : ¬ ((s.size : Nat) : Int) = 1 := by omega
    simp [e_spec_IsLabel, h2, h1, isLabel]

def okSym (s : Symbol) : Bool := isLabel s.label && validBox s.box
def validSymbols (l : List Symbol) : Bool := decide (l.length ≤ 8) && l.all okSym
theorem ok_impl_ValidSymbols_1 : PureOK Tryd.prog n_impl_ValidSymbols_1 (T1 fun s : Symbol => !okSym s) := pureT1 (E2 ok_impl_IsLabel ok_impl_ValidBox) mixed hb_impl_ValidSymbols_1 fun s => by
  simp [e_impl_ValidSymbols_1, envL, aBox, aLoad, cut, okSym]

theorem tt_strconv_FormatInt : PureOK Tryd.prog n_strconv_FormatInt (C2 (fun c : ByteArray => enc c) fmtO) :=
  pure_formatInt hb_strconv_FormatInt (by kernel_rfl) fun n h0 h1 w ht => Go.Proofs.Any.strconv_FormatInt_10 layFmt n h0 h1 w ht

def s0_spec_l01Dec : ((Sl UInt8) × Int) → Option (Sum ((Sl UInt8) × Int) (Sl UInt8)) := fun (w6, w9) =>
  bif !decide (w9 = 0) then
    bif decide ((Int.tmod w9 10) < 0) then
      obind (appO (some ([byteI (wr (48 + (wr (0 - Int.tmod w9 10))))] : List UInt8)) (w6.getD [])) fun _ =>
      some (.inl ((appS (some ([byteI (wr (48 + (wr (0 - Int.tmod w9 10))))] : List UInt8)) (w6.getD [])), wr (Int.tdiv w9 10)))
    else
      obind (appO (some ([byteI (wr (48 + (Int.tmod w9 10)))] : List UInt8)) (w6.getD [])) fun _ =>
      some (.inl ((appS (some ([byteI (wr (48 + (Int.tmod w9 10)))] : List UInt8)) (w6.getD [])), wr (Int.tdiv w9 10)))
  else
    some (.inr w6)
def t_spec_l01Dec (n_ : Int) : Option ByteArray :=
  obind (loopT s0_spec_l01Dec ((some ([] : List UInt8)), n_)) fun q13 =>
  bif decide ((((q13.getD []).length : Nat) : Int) = 0) then
    some (⟨#[48]⟩ : ByteArray)
  else
    bif decide (n_ < 0) then
      obind (catO (⟨#[45]⟩ : ByteArray) (strL (q13.getD []))) fun s18 =>
      some s18
    else
      some (strL (q13.getD []))

theorem tl0_spec_l01Dec (env : Nat → Contract) {B : Base}  (n_ : Int) (x1 : AV)  {st : (Sl UInt8) × Int} {tm : TM} {h : Heap} (R : (fun (st : (Sl UInt8) × Int) tm h7 => match st with | (w6, w9) => ∃ z5, tm = [iv n_, und, sv (⟨#[]⟩ : ByteArray), z5, iv w9, AV.top, x1, iv n_, AV.top, AV.top, AV.top, AV.top, AV.top, AV.top, AV.top, AV.top, AV.top, AV.top, AV.top, AV.top, AV.top, AV.top, AV.top, AV.top, und, und, und, und, und, und, und, und, und, und] ∧ Hold B h7 [(z5, obS (w6 : Sl UInt8))]) st tm h) : Sim (loopP hm0_spec_l01Dec xm0_spec_l01Dec (lb0_spec_l01Dec env) tm h) (loopT s0_spec_l01Dec st) (fun (q : Sl UInt8) (r : Res) => match q with | q13 => ∃ (q14 : Int) (z12 : AV) (z15 : AV) (h10 : Heap), r = (.exit 0, [iv n_, und, sv (⟨#[]⟩ : ByteArray), z12, iv q14, z15, x1, iv n_, AV.top, AV.top, AV.top, AV.top, AV.top, AV.top, AV.top, AV.top, AV.top, AV.top, AV.top, AV.top, AV.top, AV.top, AV.top, AV.top, und, und, und, und, und, und, und, und, und, und], h10) ∧ Hold B h10 [(z12, obS (q13 : Sl UInt8))]) := by
  refine loop_sim (Rel := fun (st : (Sl UInt8) × Int) tm h7 => match st with | (w6, w9) => ∃ z5, tm = [iv n_, und, sv (⟨#[]⟩ : ByteArray), z5, iv w9, AV.top, x1, iv n_, AV.top, AV.top, AV.top, AV.top, AV.top, AV.top, AV.top, AV.top, AV.top, AV.top, AV.top, AV.top, AV.top, AV.top, AV.top, AV.top, und, und, und, und, und, und, und, und, und, und] ∧ Hold B h7 [(z5, obS (w6 : Sl UInt8))]) (fun st tm h7 R => ?_) R
  obtain ⟨w6, w9⟩ := st
  obtain ⟨z5, rfl, O8⟩ := R
  rw [e_lb0_spec_l01Dec]
  unfold s0_spec_l01Dec
  dsimp only
  refine sim_let (v := bv (!decide (w9 = 0))) (aCmp_ne _ _) ?_
  refine sim_cond (fun c19 => ?_) (fun c19 => ?_)
  · refine sim_let (v := iv (Int.tmod w9 10)) (aBin_rem _ _ (by decide)) ?_
    refine sim_let (v := bv (decide ((Int.tmod w9 10) < 0))) (aBin_lss _ _) ?_
    refine sim_cond (fun c20 => ?_) (fun c20 => ?_)
    · refine sim_let (v := iv (wr (0 - Int.tmod w9 10))) (aUn_neg _) ?_
      refine sim_let (v := iv (wr (48 + (wr (0 - Int.tmod w9 10))))) (aBin_add _ _) ?_
      refine sim_let (v := bt (byteI (wr (48 + (wr (0 - Int.tmod w9 10)))))) (conv_u8 _) ?_
      refine sim_build (A := UInt8) O8 ([byteI (wr (48 + (wr (0 - Int.tmod w9 10))))] : List UInt8) rfl (by first | rfl | simp [aFillRows, zrows]) rfl (fun x21 h22 O23 => ?_)
      replace O23 : Hold B h22 [(z5, obS (w6 : Sl UInt8)), (x21, obS ((some ([byteI (wr (48 + (wr (0 - Int.tmod w9 10))))] : List UInt8)) : Sl UInt8))] := O23
      refine sim_append (A := UInt8) (s := (some ([byteI (wr (48 + (wr (0 - Int.tmod w9 10))))] : List UInt8))) O23 1 (w6.getD []) rfl (O23.src (A := UInt8) (s := w6) 0 rfl) (by decide) (fun x26 h27 O28 => ?_)
      replace O28 : Hold B h27 [(z5, obS (w6 : Sl UInt8)), (x26, obS ((appS (some ([byteI (wr (48 + (wr (0 - Int.tmod w9 10))))] : List UInt8)) (w6.getD [])) : Sl UInt8))] := O28
      refine sim_let (v := iv (wr (Int.tdiv w9 10))) (aBin_quo _ _ (by decide)) ?_
      have O30 : Hold B h27 [(x26, obS ((appS (some ([byteI (wr (48 + (wr (0 - Int.tmod w9 10))))] : List UInt8)) (w6.getD [])) : Sl UInt8))] := O28.sel [1] (by decide) rfl
      exact sim_ret ⟨rfl, _, rfl, O30⟩
    · refine sim_let (v := iv (wr (48 + (Int.tmod w9 10)))) (aBin_add _ _) ?_
      refine sim_let (v := bt (byteI (wr (48 + (Int.tmod w9 10))))) (conv_u8 _) ?_
      refine sim_build (A := UInt8) O8 ([byteI (wr (48 + (Int.tmod w9 10)))] : List UInt8) rfl (by first | rfl | simp [aFillRows, zrows]) rfl (fun x31 h32 O33 => ?_)
      replace O33 : Hold B h32 [(z5, obS (w6 : Sl UInt8)), (x31, obS ((some ([byteI (wr (48 + (Int.tmod w9 10)))] : List UInt8)) : Sl UInt8))] := O33
      refine sim_append (A := UInt8) (s := (some ([byteI (wr (48 + (Int.tmod w9 10)))] : List UInt8))) O33 1 (w6.getD []) rfl (O33.src (A := UInt8) (s := w6) 0 rfl) (by decide) (fun x36 h37 O38 => ?_)
      replace O38 : Hold B h37 [(z5, obS (w6 : Sl UInt8)), (x36, obS ((appS (some ([byteI (wr (48 + (Int.tmod w9 10)))] : List UInt8)) (w6.getD [])) : Sl UInt8))] := O38
      refine sim_let (v := iv (wr (Int.tdiv w9 10))) (aBin_quo _ _ (by decide)) ?_
      have O40 : Hold B h37 [(x36, obS ((appS (some ([byteI (wr (48 + (Int.tmod w9 10)))] : List UInt8)) (w6.getD [])) : Sl UInt8))] := O38.sel [1] (by decide) rfl
      exact sim_ret ⟨rfl, _, rfl, O40⟩
  · exact sim_ret ⟨nofun, _, _, _, _, rfl, O8⟩
theorem ts_spec_l01Dec (env : Nat → Contract)  (n_ : Int) : Sim (denFn Tryd.prog env n_spec_l01Dec [iv n_] []) (t_spec_l01Dec n_) fun c p => release p.2 depth p.1 = some ((fun c : ByteArray => enc c) c) := by
  have O := Hold.nil []
  generalize hB : (⟨[], []⟩ : Base) = B at O
  clear hB
  rw [e_spec_l01Dec]
  unfold t_spec_l01Dec
  refine sim_build (A := UInt8) O ([] : List UInt8) rfl (by first | rfl | simp [aFillRows, zrows]) rfl (fun x1 h2 O3 => ?_)
  replace O3 : Hold B h2 [(x1, obS ((some ([] : List UInt8)) : Sl UInt8))] := O3
  refine sim_bind ((tl0_spec_l01Dec env n_ x1) ⟨_, rfl, O3⟩) (fun qq43 r hq => ?_)
  revert hq
  revert qq43
  intro q13 hq
  obtain ⟨q14, z12, z15, h10, rfl, O11⟩ := hq
  rw [e_lk0x0_spec_l01Dec]
  refine sim_let (v := iv (((q13.getD []).length : Nat) : Int)) (O11.tab (A := UInt8) (s := q13) 0 rfl).len ?_
  refine sim_let (v := bv (decide ((((q13.getD []).length : Nat) : Int) = 0))) (aCmp_eq _ _) ?_
  refine sim_cond (fun c16 => ?_) (fun c16 => ?_)
  · exact sim_ret (release_plain (by rfl) _)
  · refine sim_let (v := bv (decide (n_ < 0))) (aBin_lss _ _) ?_
    refine sim_cond (fun c17 => ?_) (fun c17 => ?_)
    · refine sim_let (v := sv (strL (q13.getD []))) (conv_str (s := q13) (O11.src (A := UInt8) (s := q13) 0 rfl)) ?_
      refine sim_cat (fun s18 => ?_)
      exact sim_ret (release_plain (by rfl) _)
    · refine sim_let (v := sv (strL (q13.getD []))) (conv_str (s := q13) (O11.src (A := UInt8) (s := q13) 0 rfl)) ?_
      exact sim_ret (release_plain (by rfl) _)
theorem tt_spec_l01Dec : PureOK Tryd.prog n_spec_l01Dec (C1 (fun c : ByteArray => enc c) t_spec_l01Dec) := pureC1 E0 mixed hb_spec_l01Dec fun n_ => ts_spec_l01Dec _  n_

def t_impl_Decimal (n_ : Int) : Option ByteArray :=
  obind (fmtO n_ 10) fun c1 =>
  some c1

theorem ts_impl_Decimal (env : Nat → Contract) (he_strconv_FormatInt : env n_strconv_FormatInt = .pure (C2 (fun c : ByteArray => enc c) fmtO)) (n_ : Int) : Sim (denFn Tryd.prog env n_impl_Decimal [iv n_] []) (t_impl_Decimal n_) fun c p => release p.2 depth p.1 = some ((fun c : ByteArray => enc c) c) := by
  have O := Hold.nil []
  generalize hB : (⟨[], []⟩ : Base) = B at O
  clear hB
  rw [e_impl_Decimal]
  unfold t_impl_Decimal
  refine sim_call2 he_strconv_FormatInt (snapD_int _ _) (snapD_int _ _) (fun c1 => ?_)
  refine sim_let2 (hand_plain (by rfl) _ _) ?_
  exact sim_ret (release_plain (by rfl) _)
theorem tt_impl_Decimal : PureOK Tryd.prog n_impl_Decimal (C1 (fun c : ByteArray => enc c) t_impl_Decimal) := pureC1 (Econs tt_strconv_FormatInt E0) mixed hb_impl_Decimal fun n_ => ts_impl_Decimal _ (by simp [envL]) n_

def t_laws_szSymbol (a_ : Symbol) (left_ : Int) : Option Int :=
  bif decide ((wr (left_ - (a_.label.size : Int))) < 0) then
    some (-1)
  else
    some (wr (left_ - (a_.label.size : Int)))

theorem ts_laws_szSymbol (env : Nat → Contract)  (a_ : Symbol) (left_ : Int) : Sim (denFn Tryd.prog env n_laws_szSymbol [AV.agg [sv a_.label, iv a_.box.x1, iv a_.box.y1, iv a_.box.x2, iv a_.box.y2], iv left_] []) (t_laws_szSymbol a_ left_) fun c p => release p.2 depth p.1 = some ((fun c : Int => enc c) c) := by
  have O := Hold.nil []
  generalize hB : (⟨[], []⟩ : Base) = B at O
  clear hB
  rw [e_laws_szSymbol]
  unfold t_laws_szSymbol
  refine sim_box O (cs := [sv a_.label, iv a_.box.x1, iv a_.box.y1, iv a_.box.x2, iv a_.box.y2]) (by first | rfl | simp) (fun o1 h2 O3 => ?_)
  replace O3 : Hold B h2 [(AV.ptr o1 1 0 0, .pt 5 [sv a_.label, iv a_.box.x1, iv a_.box.y1, iv a_.box.x2, iv a_.box.y2])] := O3
  refine sim_let (v := AV.ptr o1 1 0 0) rfl ?_
  refine sim_let (v := sv a_.label) (O3.ld 0 rfl false 1 0) ?_
  refine sim_let (v := iv (a_.label.size : Int)) rfl ?_
  refine sim_let (v := iv (wr (left_ - (a_.label.size : Int)))) (aBin_sub _ _) ?_
  refine sim_let (v := bv (decide ((wr (left_ - (a_.label.size : Int))) < 0))) (aBin_lss _ _) ?_
  refine sim_cond (fun c5 => ?_) (fun c5 => ?_)
  · exact sim_ret (release_plain (by rfl) _)
  · exact sim_ret (release_plain (by rfl) _)
theorem tt_laws_szSymbol : PureOK Tryd.prog n_laws_szSymbol (C2 (fun c : Int => enc c) t_laws_szSymbol) := pureC2 E0 mixed hb_laws_szSymbol fun a_ left_ => ts_laws_szSymbol _  a_ left_

def s0_laws_szSymbolS (a_ : Sl Symbol) : (Int × Int) → Option (Sum (Int × Int) (Sum Int Int)) := fun (w4, w5) =>
  bif decide (w5 < (((a_.getD []).length : Nat) : Int)) then
    obind (getI (a_.getD []) w5) fun a17 =>
    obind (t_laws_szSymbol a17 w4) fun c21 =>
    bif decide (c21 < 0) then
      some (.inr (.inr (-1)))
    else
      some (.inl (c21, wr (w5 + 1)))
  else
    some (.inr (.inl w4))
def t_laws_szSymbolS (a_ : Sl Symbol) (left_ : Int) : Option Int :=
  bif decide ((wr (left_ - (((a_.getD []).length : Nat) : Int))) < 0) then
    some (-1)
  else
    obind (loopT (s0_laws_szSymbolS a_) (wr (left_ - (((a_.getD []).length : Nat) : Int)), 0)) fun qq27 => match qq27 with
    | (.inl q8) =>
        some q8
    | (.inr q14) =>
        some q14

theorem tl0_laws_szSymbolS (env : Nat → Contract) {B : Base} (he_laws_szSymbol : env n_laws_szSymbol = .pure (C2 (fun c : Int => enc c) t_laws_szSymbol)) (a_ : Sl Symbol) (left_ : Int)  {st : Int × Int} {tm : TM} {h : Heap} (R : (fun (st : Int × Int) tm h2 => match st with | (w4, w5) => tm = [Sl.enc a_, iv w4, und, und, AV.top, iv w5, iv left_, Sl.enc a_, iv (((a_.getD []).length : Nat) : Int), iv (wr (left_ - (((a_.getD []).length : Nat) : Int))), iv (wr (left_ - (((a_.getD []).length : Nat) : Int))), bv (decide ((wr (left_ - (((a_.getD []).length : Nat) : Int))) < 0)), AV.top, AV.top, AV.top, AV.top, AV.top, AV.top, AV.top, AV.top, AV.top, AV.top, AV.top, AV.top, AV.top, AV.top, und] ∧ Hold B h2 []) st tm h) : Sim (loopP hm0_laws_szSymbolS xm0_laws_szSymbolS (lb0_laws_szSymbolS env) tm h) (loopT (s0_laws_szSymbolS a_) st) (fun (q : Sum Int Int) (r : Res) => match q with | .inl q8 => ∃ (q10 : Int) (z9 : AV) (h6 : Heap), r = (.exit 0, [Sl.enc a_, iv q8, und, und, z9, iv q10, iv left_, Sl.enc a_, iv (((a_.getD []).length : Nat) : Int), iv (wr (left_ - (((a_.getD []).length : Nat) : Int))), iv (wr (left_ - (((a_.getD []).length : Nat) : Int))), bv (decide ((wr (left_ - (((a_.getD []).length : Nat) : Int))) < 0)), AV.top, AV.top, AV.top, AV.top, AV.top, AV.top, AV.top, AV.top, AV.top, AV.top, AV.top, AV.top, AV.top, AV.top, und], h6) ∧ Hold B h6 [] | .inr q14 => ∃ (q13 : Int) (q15 : Int) (h11 : Heap), r = (.ret, [Sl.enc a_, iv q13, und, und, iv q14, iv q15, iv left_, Sl.enc a_, iv (((a_.getD []).length : Nat) : Int), iv (wr (left_ - (((a_.getD []).length : Nat) : Int))), iv (wr (left_ - (((a_.getD []).length : Nat) : Int))), bv (decide ((wr (left_ - (((a_.getD []).length : Nat) : Int))) < 0)), AV.top, AV.top, AV.top, AV.top, AV.top, AV.top, AV.top, AV.top, AV.top, AV.top, AV.top, AV.top, AV.top, AV.top, und], h11) ∧ Hold B h11 []) := by
  refine loop_sim (Rel := fun (st : Int × Int) tm h2 => match st with | (w4, w5) => tm = [Sl.enc a_, iv w4, und, und, AV.top, iv w5, iv left_, Sl.enc a_, iv (((a_.getD []).length : Nat) : Int), iv (wr (left_ - (((a_.getD []).length : Nat) : Int))), iv (wr (left_ - (((a_.getD []).length : Nat) : Int))), bv (decide ((wr (left_ - (((a_.getD []).length : Nat) : Int))) < 0)), AV.top, AV.top, AV.top, AV.top, AV.top, AV.top, AV.top, AV.top, AV.top, AV.top, AV.top, AV.top, AV.top, AV.top, und] ∧ Hold B h2 []) (fun st tm h2 R => ?_) R
  obtain ⟨w4, w5⟩ := st
  obtain ⟨rfl, O3⟩ := R
  rw [e_lb0_laws_szSymbolS]
  unfold s0_laws_szSymbolS
  dsimp only
  refine sim_let (v := iv (((a_.getD []).length : Nat) : Int)) (Tab.enc h2 a_).len ?_
  refine sim_let (v := bv (decide (w5 < (((a_.getD []).length : Nat) : Int)))) (aBin_lss _ _) ?_
  refine sim_cond (fun c16 => ?_) (fun c16 => ?_)
  · refine sim_get (Tab.enc h2 a_) (fun m18 a17 hi19 hm20 => ?_)
    refine sim_let (v := AV.agg [sv a17.label, iv a17.box.x1, iv a17.box.y1, iv a17.box.x2, iv a17.box.y2]) ((Tab.enc h2 a_).ld hm20 true 5 0) ?_
    refine sim_call2 he_laws_szSymbol (snapD_nr _ a17 rfl) (snapD_int _ _) (fun c21 => ?_)
    refine sim_let2 (hand_plain (by rfl) _ _) ?_
    refine sim_let (v := bv (decide (c21 < 0))) (aBin_lss _ _) ?_
    refine sim_cond (fun c22 => ?_) (fun c22 => ?_)
    · exact sim_ret ⟨nofun, _, _, _, rfl, O3⟩
    · refine sim_let (v := iv (wr (w5 + 1))) (aBin_add _ _) ?_
      exact sim_ret ⟨rfl, rfl, O3⟩
  · exact sim_ret ⟨nofun, _, _, _, rfl, O3⟩
theorem ts_laws_szSymbolS (env : Nat → Contract) (he_laws_szSymbol : env n_laws_szSymbol = .pure (C2 (fun c : Int => enc c) t_laws_szSymbol)) (a_ : Sl Symbol) (left_ : Int) : Sim (denFn Tryd.prog env n_laws_szSymbolS [Sl.enc a_, iv left_] []) (t_laws_szSymbolS a_ left_) fun c p => release p.2 depth p.1 = some ((fun c : Int => enc c) c) := by
  have O := Hold.nil []
  generalize hB : (⟨[], []⟩ : Base) = B at O
  clear hB
  rw [e_laws_szSymbolS]
  unfold t_laws_szSymbolS
  refine sim_let (v := iv (((a_.getD []).length : Nat) : Int)) (Tab.enc [] a_).len ?_
  refine sim_let (v := iv (wr (left_ - (((a_.getD []).length : Nat) : Int)))) (aBin_sub _ _) ?_
  refine sim_let (v := bv (decide ((wr (left_ - (((a_.getD []).length : Nat) : Int))) < 0))) (aBin_lss _ _) ?_
  refine sim_cond (fun c1 => ?_) (fun c1 => ?_)
  · exact sim_ret (release_plain (by rfl) _)
  · refine sim_bind ((tl0_laws_szSymbolS env he_laws_szSymbol a_ left_) ⟨rfl, O⟩) (fun qq27 r hq => ?_)
    rcases qq27 with q8 | q14
    · obtain ⟨q10, z9, h6, rfl, O7⟩ := hq
      rw [e_lk0x0_laws_szSymbolS]
      exact sim_ret (release_plain (by rfl) _)
    · obtain ⟨q13, q15, h11, rfl, O12⟩ := hq
      rw [e_lk0r_laws_szSymbolS]
      exact sim_ret (release_plain (by rfl) _)
theorem tt_laws_szSymbolS : PureOK Tryd.prog n_laws_szSymbolS (C2 (fun c : Int => enc c) t_laws_szSymbolS) := pureC2 (Econs tt_laws_szSymbol E0) mixed hb_laws_szSymbolS fun a_ left_ => ts_laws_szSymbolS _ (by simp [envL]) a_ left_

def s0_laws_toSymbolS (a_ : Sl Symbol) : ((Sl Symbol) × Int) → Option (Sum ((Sl Symbol) × Int) (Sl Symbol)) := fun (w6, w9) =>
  bif decide (w9 < (((a_.getD []).length : Nat) : Int)) then
    obind (getI (a_.getD []) w9) fun a15 =>
    obind (some ((fun b : Symbol => b) a15)) fun c19 =>
    obind (getI (w6.getD []) w9) fun a20 =>
    some (.inl ((setS w6 w9 c19), wr (w9 + 1)))
  else
    some (.inr w6)
def t_laws_toSymbolS (a_ : Sl Symbol) : Option (Sl Symbol) :=
  obind (makeO (⟨(⟨#[]⟩ : ByteArray), ⟨0, 0, 0, 0⟩⟩ : Symbol) (((a_.getD []).length : Nat) : Int)) fun l5 =>
  obind (loopT (s0_laws_toSymbolS a_) ((some l5), 0)) fun q12 =>
  some q12

theorem tl0_laws_toSymbolS (env : Nat → Contract) {B : Base} (he_laws_toSymbol : env n_laws_toSymbol = .pure (T1 (fun b : Symbol => b))) (a_ : Sl Symbol) (x1 : AV)  {st : (Sl Symbol) × Int} {tm : TM} {h : Heap} (R : (fun (st : (Sl Symbol) × Int) tm h7 => match st with | (w6, w9) => tm = [Sl.enc a_, und, nilS, x1, iv w9, Sl.enc a_, iv (((a_.getD []).length : Nat) : Int), x1, AV.top, AV.top, AV.top, AV.top, AV.top, AV.top, AV.top, AV.top, AV.top, AV.top, AV.top, AV.top, AV.top, AV.top, und] ∧ Hold B h7 [(x1, obS (w6 : Sl Symbol))]) st tm h) : Sim (loopP hm0_laws_toSymbolS xm0_laws_toSymbolS (lb0_laws_toSymbolS env) tm h) (loopT (s0_laws_toSymbolS a_) st) (fun (q : Sl Symbol) (r : Res) => match q with | q12 => ∃ (q13 : Int) (h10 : Heap), r = (.exit 0, [Sl.enc a_, und, nilS, x1, iv q13, Sl.enc a_, iv (((a_.getD []).length : Nat) : Int), x1, AV.top, AV.top, AV.top, AV.top, AV.top, AV.top, AV.top, AV.top, AV.top, AV.top, AV.top, AV.top, AV.top, AV.top, und], h10) ∧ Hold B h10 [(x1, obS (q12 : Sl Symbol))]) := by
  refine loop_sim (Rel := fun (st : (Sl Symbol) × Int) tm h7 => match st with | (w6, w9) => tm = [Sl.enc a_, und, nilS, x1, iv w9, Sl.enc a_, iv (((a_.getD []).length : Nat) : Int), x1, AV.top, AV.top, AV.top, AV.top, AV.top, AV.top, AV.top, AV.top, AV.top, AV.top, AV.top, AV.top, AV.top, AV.top, und] ∧ Hold B h7 [(x1, obS (w6 : Sl Symbol))]) (fun st tm h7 R => ?_) R
  obtain ⟨w6, w9⟩ := st
  obtain ⟨rfl, O8⟩ := R
  rw [e_lb0_laws_toSymbolS]
  unfold s0_laws_toSymbolS
  dsimp only
  refine sim_let (v := iv (((a_.getD []).length : Nat) : Int)) (Tab.enc h7 a_).len ?_
  refine sim_let (v := bv (decide (w9 < (((a_.getD []).length : Nat) : Int)))) (aBin_lss _ _) ?_
  refine sim_cond (fun c14 => ?_) (fun c14 => ?_)
  · refine sim_get (Tab.enc h7 a_) (fun m16 a15 hi17 hm18 => ?_)
    refine sim_let (v := AV.agg [sv a15.label, iv a15.box.x1, iv a15.box.y1, iv a15.box.x2, iv a15.box.y2]) ((Tab.enc h7 a_).ld hm18 true 5 0) ?_
    refine sim_callV1 (t := (fun b : Symbol => b)) he_laws_toSymbol (snapD_nr _ a15 rfl) (fun c19 => ?_)
    refine sim_get (O8.tab (A := Symbol) (s := w6) 0 rfl) (fun m21 a20 hi22 hm23 => ?_)
    refine sim_set (A := Symbol) O8 0 c19 rfl hi22 hm23 rfl (by simp) (by first | rfl | simp) (by first | rfl | simp [splice]) (fun h24 O25 => ?_)
    replace O25 : Hold B h24 [(x1, obS ((setS w6 w9 c19) : Sl Symbol))] := O25
    refine sim_let (v := iv (wr (w9 + 1))) (aBin_add _ _) ?_
    exact sim_ret ⟨rfl, rfl, O25⟩
  · exact sim_ret ⟨nofun, _, _, rfl, O8⟩
theorem ts_laws_toSymbolS (env : Nat → Contract) (he_laws_toSymbol : env n_laws_toSymbol = .pure (T1 (fun b : Symbol => b))) (a_ : Sl Symbol) : Sim (denFn Tryd.prog env n_laws_toSymbolS [Sl.enc a_] []) (t_laws_toSymbolS a_) fun c p => release p.2 depth p.1 = some ((fun c : (Sl Symbol) => rS c) c) := by
  have O := Hold.nil []
  generalize hB : (⟨[], []⟩ : Base) = B at O
  clear hB
  rw [e_laws_toSymbolS]
  unfold t_laws_toSymbolS
  refine sim_let (v := iv (((a_.getD []).length : Nat) : Int)) (Tab.enc [] a_).len ?_
  refine sim_make (A := Symbol) O (⟨(⟨#[]⟩ : ByteArray), ⟨0, 0, 0, 0⟩⟩ : Symbol) rfl (by decide) (fun l5 x1 h2 O3 => ?_)
  replace O3 : Hold B h2 [(x1, obS ((some l5) : Sl Symbol))] := O3
  refine sim_bind ((tl0_laws_toSymbolS env he_laws_toSymbol a_ x1) ⟨rfl, O3⟩) (fun qq29 r hq => ?_)
  revert hq
  revert qq29
  intro q12 hq
  obtain ⟨q13, h10, rfl, O11⟩ := hq
  rw [e_lk0x0_laws_toSymbolS]
  exact sim_ret (O11.rel (A := Symbol) (s := q12) 0 rfl)
theorem tt_laws_toSymbolS : PureOK Tryd.prog n_laws_toSymbolS (C1 (fun c : (Sl Symbol) => rS c) t_laws_toSymbolS) := pureC1 (Econs ok_laws_toSymbol E0) mixed hb_laws_toSymbolS fun a_ => ts_laws_toSymbolS _ (by simp [envL]) a_

def s0_spec_l20Ok (list_ : Sl Symbol) : Int → Option (Sum Int (Sum Unit Bool)) := fun w3 =>
  bif decide (w3 < (((list_.getD []).length : Nat) : Int)) then
    obind (getI (list_.getD []) w3) fun a13 =>
    obind (some (isLabel a13.label)) fun c17 =>
    obind (bif !c17 then some false else (obind (getI (list_.getD []) w3) fun a19 => obind (some (validBox a19.box)) fun c23 => some (!c23))) fun c24 =>
    bif (bif !c17 then true else c24) then
      some (.inr (.inr false))
    else
      some (.inl (wr (w3 + 1)))
  else
    some (.inr (.inl ()))
def t_spec_l20Ok (list_ : Sl Symbol) : Option Bool :=
  obind (loopT (s0_spec_l20Ok list_) 0) fun qq30 => match qq30 with
  | (.inl _) =>
      some (decide ((((list_.getD []).length : Nat) : Int) ≤ 8))
  | (.inr q10) =>
      some q10

theorem tl0_spec_l20Ok (env : Nat → Contract) {B : Base} (he_spec_IsLabel : env n_spec_IsLabel = .pure (T1 isLabel)) (he_spec_l02Box : env n_spec_l02Box = .pure (T1 validBox)) (list_ : Sl Symbol)  {st : Int} {tm : TM} {h : Heap} (R : (fun (st : Int) tm h1 => match st with | w3 => tm = [Sl.enc list_, und, AV.top, iv w3, AV.top, AV.top, AV.top, AV.top, AV.top, AV.top, AV.top, AV.top, AV.top, AV.top, AV.top, AV.top, AV.top, AV.top, AV.top, AV.top, AV.top, AV.top, AV.top, AV.top, AV.top, AV.top, und, und, und] ∧ Hold B h1 []) st tm h) : Sim (loopP hm0_spec_l20Ok xm0_spec_l20Ok (lb0_spec_l20Ok env) tm h) (loopT (s0_spec_l20Ok list_) st) (fun (q : Sum Unit Bool) (r : Res) => match q with | .inl _ => ∃ (q7 : Int) (z6 : AV) (h4 : Heap), r = (.exit 0, [Sl.enc list_, und, z6, iv q7, AV.top, AV.top, AV.top, AV.top, AV.top, AV.top, AV.top, AV.top, AV.top, AV.top, AV.top, AV.top, AV.top, AV.top, AV.top, AV.top, AV.top, AV.top, AV.top, AV.top, AV.top, AV.top, und, und, und], h4) ∧ Hold B h4 [] | .inr q10 => ∃ (q11 : Int) (h8 : Heap), r = (.ret, [Sl.enc list_, und, bv q10, iv q11, AV.top, AV.top, AV.top, AV.top, AV.top, AV.top, AV.top, AV.top, AV.top, AV.top, AV.top, AV.top, AV.top, AV.top, AV.top, AV.top, AV.top, AV.top, AV.top, AV.top, AV.top, AV.top, und, und, und], h8) ∧ Hold B h8 []) := by
  refine loop_sim (Rel := fun (st : Int) tm h1 => match st with | w3 => tm = [Sl.enc list_, und, AV.top, iv w3, AV.top, AV.top, AV.top, AV.top, AV.top, AV.top, AV.top, AV.top, AV.top, AV.top, AV.top, AV.top, AV.top, AV.top, AV.top, AV.top, AV.top, AV.top, AV.top, AV.top, AV.top, AV.top, und, und, und] ∧ Hold B h1 []) (fun w3 tm h1 R => ?_) R
  obtain ⟨rfl, O2⟩ := R
  rw [e_lb0_spec_l20Ok]
  unfold s0_spec_l20Ok
  dsimp only
  refine sim_let (v := iv (((list_.getD []).length : Nat) : Int)) (Tab.enc h1 list_).len ?_
  refine sim_let (v := bv (decide (w3 < (((list_.getD []).length : Nat) : Int)))) (aBin_lss _ _) ?_
  refine sim_cond (fun c12 => ?_) (fun c12 => ?_)
  · refine sim_get (Tab.enc h1 list_) (fun m14 a13 hi15 hm16 => ?_)
    refine sim_let (v := elp (Sl.enc list_) m14 0) ((Tab.enc h1 list_).fld _ _ _) ?_
    refine sim_let (v := sv a13.label) ((Tab.enc h1 list_).ld hm16 false 1 0) ?_
    refine sim_callV1 (t := isLabel) he_spec_IsLabel (snapD_str _ _) (fun c17 => ?_)
    refine sim_let (v := bv (!c17)) (aUn_not _) ?_
    refine sim_guardF (e := bv) (fun hb18 => ?_) (fun c24 => ?_)
    · refine sim_get (Tab.enc h1 list_) (fun m20 a19 hi21 hm22 => ?_)
      refine sim_let (v := elp (Sl.enc list_) m20 1) ((Tab.enc h1 list_).fld _ _ _) ?_
      refine sim_let (v := AV.agg [iv a19.box.x1, iv a19.box.y1, iv a19.box.x2, iv a19.box.y2]) ((Tab.enc h1 list_).ld hm22 true 4 1) ?_
      refine sim_callV1 (t := validBox) he_spec_l02Box (snapD_nr _ a19.box rfl) (fun c23 => ?_)
      refine sim_let (v := bv (!c23)) (aUn_not _) ?_
      exact sim_ret rfl
    · refine sim_let (v := bv (bif !c17 then true else c24)) (pick_b' _ _ _) ?_
      refine sim_cond (fun c25 => ?_) (fun c25 => ?_)
      · exact sim_ret ⟨nofun, _, _, rfl, O2⟩
      · refine sim_let (v := iv (wr (w3 + 1))) (aBin_add _ _) ?_
        exact sim_ret ⟨rfl, rfl, O2⟩
  · exact sim_ret ⟨nofun, _, _, _, rfl, O2⟩
theorem ts_spec_l20Ok (env : Nat → Contract) (he_spec_IsLabel : env n_spec_IsLabel = .pure (T1 isLabel)) (he_spec_l02Box : env n_spec_l02Box = .pure (T1 validBox)) (list_ : Sl Symbol) : Sim (denFn Tryd.prog env n_spec_l20Ok [Sl.enc list_] []) (t_spec_l20Ok list_) fun c p => release p.2 depth p.1 = some ((fun c : Bool => enc c) c) := by
  have O := Hold.nil []
  generalize hB : (⟨[], []⟩ : Base) = B at O
  clear hB
  rw [e_spec_l20Ok]
  unfold t_spec_l20Ok
  refine sim_bind ((tl0_spec_l20Ok env he_spec_IsLabel he_spec_l02Box list_) ⟨rfl, O⟩) (fun qq30 r hq => ?_)
  rcases qq30 with _ | q10
  · obtain ⟨q7, z6, h4, rfl, O5⟩ := hq
    rw [e_lk0x0_spec_l20Ok]
    refine sim_let (v := iv (((list_.getD []).length : Nat) : Int)) (Tab.enc h4 list_).len ?_
    refine sim_let (v := bv (decide ((((list_.getD []).length : Nat) : Int) ≤ 8))) (aBin_leq _ _) ?_
    exact sim_ret (release_plain (by rfl) _)
  · obtain ⟨q11, h8, rfl, O9⟩ := hq
    rw [e_lk0r_spec_l20Ok]
    exact sim_ret (release_plain (by rfl) _)
theorem tt_spec_l20Ok : PureOK Tryd.prog n_spec_l20Ok (C1 (fun c : Bool => enc c) t_spec_l20Ok) := pureC1 (Econs ok_spec_IsLabel (Econs ok_spec_l02Box E0)) mixed hb_spec_l20Ok fun list_ => ts_spec_l20Ok _ (by simp [envL]) (by simp [envL]) list_

def s0_spec_l20Text (list_ : Sl Symbol) : (ByteArray × Int) → Option (Sum (ByteArray × Int) ByteArray) := fun (w3, w4) =>
  bif decide (w4 < (((list_.getD []).length : Nat) : Int)) then
    obind (getI (list_.getD []) w4) fun a11 =>
    obind (getI (list_.getD []) w4) fun a21 =>
    obind (catO a21.label (⟨#[32]⟩ : ByteArray)) fun s25 =>
    obind (t_spec_l01Dec a11.box.x1) fun c26 =>
    obind (catO s25 c26) fun s27 =>
    obind (catO s27 (⟨#[32]⟩ : ByteArray)) fun s28 =>
    obind (t_spec_l01Dec a11.box.y1) fun c29 =>
    obind (catO s28 c29) fun s30 =>
    obind (catO s30 (⟨#[32]⟩ : ByteArray)) fun s31 =>
    obind (t_spec_l01Dec a11.box.x2) fun c32 =>
    obind (catO s31 c32) fun s33 =>
    obind (catO s33 (⟨#[32]⟩ : ByteArray)) fun s34 =>
    obind (t_spec_l01Dec a11.box.y2) fun c35 =>
    obind (catO s34 c35) fun s36 =>
    obind (catO s36 (⟨#[10]⟩ : ByteArray)) fun s37 =>
    obind (catO w3 s37) fun s38 =>
    some (.inl (s38, wr (w4 + 1)))
  else
    some (.inr w3)
def t_spec_l20Text (list_ : Sl Symbol) : Option ByteArray :=
  obind (loopT (s0_spec_l20Text list_) ((⟨#[]⟩ : ByteArray), 0)) fun q7 =>
  some q7

theorem tl0_spec_l20Text (env : Nat → Contract) {B : Base} (he_spec_l01Dec : env n_spec_l01Dec = .pure (C1 (fun c : ByteArray => enc c) t_spec_l01Dec)) (list_ : Sl Symbol)  {st : ByteArray × Int} {tm : TM} {h : Heap} (R : (fun (st : ByteArray × Int) tm h1 => match st with | (w3, w4) => tm = [Sl.enc list_, und, sv (⟨#[]⟩ : ByteArray), sv w3, iv w4, AV.top, AV.top, AV.top, AV.top, AV.top, AV.top, AV.top, AV.top, AV.top, AV.top, AV.top, AV.top, AV.top, AV.top, AV.top, AV.top, AV.top, AV.top, AV.top, AV.top, AV.top, AV.top, AV.top, AV.top, AV.top, AV.top, AV.top, AV.top, AV.top, AV.top, AV.top, AV.top, AV.top, AV.top, AV.top, AV.top, AV.top, AV.top, AV.top, AV.top, und] ∧ Hold B h1 []) st tm h) : Sim (loopP hm0_spec_l20Text xm0_spec_l20Text (lb0_spec_l20Text env) tm h) (loopT (s0_spec_l20Text list_) st) (fun (q : ByteArray) (r : Res) => match q with | q7 => ∃ (q8 : Int) (z9 : AV) (h5 : Heap), r = (.exit 0, [Sl.enc list_, und, sv (⟨#[]⟩ : ByteArray), sv q7, iv q8, z9, AV.top, AV.top, AV.top, AV.top, AV.top, AV.top, AV.top, AV.top, AV.top, AV.top, AV.top, AV.top, AV.top, AV.top, AV.top, AV.top, AV.top, AV.top, AV.top, AV.top, AV.top, AV.top, AV.top, AV.top, AV.top, AV.top, AV.top, AV.top, AV.top, AV.top, AV.top, AV.top, AV.top, AV.top, AV.top, AV.top, AV.top, AV.top, AV.top, und], h5) ∧ Hold B h5 []) := by
  refine loop_sim (Rel := fun (st : ByteArray × Int) tm h1 => match st with | (w3, w4) => tm = [Sl.enc list_, und, sv (⟨#[]⟩ : ByteArray), sv w3, iv w4, AV.top, AV.top, AV.top, AV.top, AV.top, AV.top, AV.top, AV.top, AV.top, AV.top, AV.top, AV.top, AV.top, AV.top, AV.top, AV.top, AV.top, AV.top, AV.top, AV.top, AV.top, AV.top, AV.top, AV.top, AV.top, AV.top, AV.top, AV.top, AV.top, AV.top, AV.top, AV.top, AV.top, AV.top, AV.top, AV.top, AV.top, AV.top, AV.top, AV.top, und] ∧ Hold B h1 []) (fun st tm h1 R => ?_) R
  obtain ⟨w3, w4⟩ := st
  obtain ⟨rfl, O2⟩ := R
  rw [e_lb0_spec_l20Text]
  unfold s0_spec_l20Text
  dsimp only
  refine sim_let (v := iv (((list_.getD []).length : Nat) : Int)) (Tab.enc h1 list_).len ?_
  refine sim_let (v := bv (decide (w4 < (((list_.getD []).length : Nat) : Int)))) (aBin_lss _ _) ?_
  refine sim_cond (fun c10 => ?_) (fun c10 => ?_)
  · refine sim_get (Tab.enc h1 list_) (fun m12 a11 hi13 hm14 => ?_)
    refine sim_let (v := elp (Sl.enc list_) m12 1) ((Tab.enc h1 list_).fld _ _ _) ?_
    refine sim_let (v := AV.agg [iv a11.box.x1, iv a11.box.y1, iv a11.box.x2, iv a11.box.y2]) ((Tab.enc h1 list_).ld hm14 true 4 1) ?_
    refine sim_box O2 (cs := [iv 0, iv 0, iv 0, iv 0]) (by first | rfl | simp) (fun o15 h16 O17 => ?_)
    replace O17 : Hold B h16 [(AV.ptr o15 1 0 0, .pt 4 [iv 0, iv 0, iv 0, iv 0])] := O17
    refine sim_store O17 0 (cs' := [iv a11.box.x1, iv a11.box.y1, iv a11.box.x2, iv a11.box.y2]) rfl (by first | rfl | simp) (by simp) (by first | rfl | simp) (by first | rfl | simp [splice]) (fun h19 O20 => ?_)
    replace O20 : Hold B h19 [(AV.ptr o15 1 0 0, .pt 4 [iv a11.box.x1, iv a11.box.y1, iv a11.box.x2, iv a11.box.y2])] := O20
    refine sim_get (Tab.enc h19 list_) (fun m22 a21 hi23 hm24 => ?_)
    refine sim_let (v := elp (Sl.enc list_) m22 0) ((Tab.enc h19 list_).fld _ _ _) ?_
    refine sim_let (v := sv a21.label) ((Tab.enc h19 list_).ld hm24 false 1 0) ?_
    refine sim_cat (fun s25 => ?_)
    refine sim_let (v := AV.ptr o15 1 0 0) rfl ?_
    refine sim_let (v := iv a11.box.x1) (O20.ld 0 rfl false 1 0) ?_
    refine sim_callQ1 he_spec_l01Dec (snapD_int _ _) (fun c26 => ?_)
    refine sim_let2 (hand_plain (by rfl) _ _) ?_
    refine sim_cat (fun s27 => ?_)
    refine sim_cat (fun s28 => ?_)
    refine sim_let (v := AV.ptr o15 1 0 1) rfl ?_
    refine sim_let (v := iv a11.box.y1) (O20.ld 0 rfl false 1 1) ?_
    refine sim_callQ1 he_spec_l01Dec (snapD_int _ _) (fun c29 => ?_)
    refine sim_let2 (hand_plain (by rfl) _ _) ?_
    refine sim_cat (fun s30 => ?_)
    refine sim_cat (fun s31 => ?_)
    refine sim_let (v := AV.ptr o15 1 0 2) rfl ?_
    refine sim_let (v := iv a11.box.x2) (O20.ld 0 rfl false 1 2) ?_
    refine sim_callQ1 he_spec_l01Dec (snapD_int _ _) (fun c32 => ?_)
    refine sim_let2 (hand_plain (by rfl) _ _) ?_
    refine sim_cat (fun s33 => ?_)
    refine sim_cat (fun s34 => ?_)
    refine sim_let (v := AV.ptr o15 1 0 3) rfl ?_
    refine sim_let (v := iv a11.box.y2) (O20.ld 0 rfl false 1 3) ?_
    refine sim_callQ1 he_spec_l01Dec (snapD_int _ _) (fun c35 => ?_)
    refine sim_let2 (hand_plain (by rfl) _ _) ?_
    refine sim_cat (fun s36 => ?_)
    refine sim_cat (fun s37 => ?_)
    refine sim_cat (fun s38 => ?_)
    refine sim_let (v := iv (wr (w4 + 1))) (aBin_add _ _) ?_
    have O39 : Hold B h19 [] := O20.sel [] (by decide) rfl
    exact sim_ret ⟨rfl, rfl, O39⟩
  · exact sim_ret ⟨nofun, _, _, _, rfl, O2⟩
theorem ts_spec_l20Text (env : Nat → Contract) (he_spec_l01Dec : env n_spec_l01Dec = .pure (C1 (fun c : ByteArray => enc c) t_spec_l01Dec)) (list_ : Sl Symbol) : Sim (denFn Tryd.prog env n_spec_l20Text [Sl.enc list_] []) (t_spec_l20Text list_) fun c p => release p.2 depth p.1 = some ((fun c : ByteArray => enc c) c) := by
  have O := Hold.nil []
  generalize hB : (⟨[], []⟩ : Base) = B at O
  clear hB
  rw [e_spec_l20Text]
  unfold t_spec_l20Text
  refine sim_bind ((tl0_spec_l20Text env he_spec_l01Dec list_) ⟨rfl, O⟩) (fun qq42 r hq => ?_)
  revert hq
  revert qq42
  intro q7 hq
  obtain ⟨q8, z9, h5, rfl, O6⟩ := hq
  rw [e_lk0x0_spec_l20Text]
  exact sim_ret (release_plain (by rfl) _)
theorem tt_spec_l20Text : PureOK Tryd.prog n_spec_l20Text (C1 (fun c : ByteArray => enc c) t_spec_l20Text) := pureC1 (Econs tt_spec_l01Dec E0) mixed hb_spec_l20Text fun list_ => ts_spec_l20Text _ (by simp [envL]) list_

def t_spec_SymbolsText (list_ : Sl Symbol) : Option ByteArray :=
  obind (t_spec_l20Ok list_) fun c1 =>
  bif !c1 then
    some (⟨#[]⟩ : ByteArray)
  else
    obind (t_spec_l20Text list_) fun c3 =>
    some c3

theorem ts_spec_SymbolsText (env : Nat → Contract) (he_spec_l20Ok : env n_spec_l20Ok = .pure (C1 (fun c : Bool => enc c) t_spec_l20Ok)) (he_spec_l20Text : env n_spec_l20Text = .pure (C1 (fun c : ByteArray => enc c) t_spec_l20Text)) (list_ : Sl Symbol) : Sim (denFn Tryd.prog env n_spec_SymbolsText [Sl.enc list_] []) (t_spec_SymbolsText list_) fun c p => release p.2 depth p.1 = some ((fun c : ByteArray => enc c) c) := by
  have O := Hold.nil []
  generalize hB : (⟨[], []⟩ : Base) = B at O
  clear hB
  rw [e_spec_SymbolsText]
  unfold t_spec_SymbolsText
  refine sim_call1 he_spec_l20Ok (snapD_enc _ _) (fun c1 => ?_)
  refine sim_let2 (hand_plain (by rfl) _ _) ?_
  refine sim_let (v := bv (!c1)) (aUn_not _) ?_
  refine sim_cond (fun c2 => ?_) (fun c2 => ?_)
  · exact sim_ret (release_plain (by rfl) _)
  · refine sim_call1 he_spec_l20Text (snapD_enc _ _) (fun c3 => ?_)
    refine sim_let2 (hand_plain (by rfl) _ _) ?_
    exact sim_ret (release_plain (by rfl) _)
theorem tt_spec_SymbolsText : PureOK Tryd.prog n_spec_SymbolsText (C1 (fun c : ByteArray => enc c) t_spec_SymbolsText) := pureC1 (Econs tt_spec_l20Ok (Econs tt_spec_l20Text E0)) mixed hb_spec_SymbolsText fun list_ => ts_spec_SymbolsText _ (by simp [envL]) (by simp [envL]) list_

def s0_slices_IndexFunc_impl_Symbol_impl_Symbol (p_ : Symbol → Option Bool) (s_ : Sl Symbol) : Int → Option (Sum Int (Sum Unit Int)) := fun w3 =>
  bif decide (w3 < (((s_.getD []).length : Nat) : Int)) then
    obind (getI (s_.getD []) w3) fun a13 =>
    obind (p_ a13) fun c17 =>
    bif c17 then
      some (.inr (.inr w3))
    else
      some (.inl (wr (w3 + 1)))
  else
    some (.inr (.inl ()))
def t_slices_IndexFunc_impl_Symbol_impl_Symbol (p_ : Symbol → Option Bool) (s_ : Sl Symbol) : Option Int :=
  obind (loopT (s0_slices_IndexFunc_impl_Symbol_impl_Symbol p_ s_) 0) fun qq26 => match qq26 with
  | (.inl _) =>
      some (-1)
  | (.inr q10) =>
      some q10

theorem tl0_slices_IndexFunc_impl_Symbol_impl_Symbol (env : Nat → Contract) {B : Base} {K : Type} [Cod K] {g : Nat} {caps : K → List AV} {P : K → Symbol → Option Bool} (hp : ∀ k (a : Symbol) h, Sim (aCall (env g) (AV.agg (Row.cells a) :: caps k) h) (P k a) fun b r => r = (bv b, h))  (s_ : Sl Symbol) (f_ : K)  {st : Int} {tm : TM} {h : Heap} (R : (fun (st : Int) tm h1 => match st with | w3 => tm = [Sl.enc s_, AV.fn g (caps f_), und, und, AV.top, AV.top, Sl.enc s_, iv (((s_.getD []).length : Nat) : Int), iv w3, AV.top, AV.top, AV.top, AV.top, AV.top, AV.top, AV.top, AV.top, AV.top, AV.top] ∧ Hold B h1 []) st tm h) : Sim (loopP hm0_slices_IndexFunc_impl_Symbol_impl_Symbol xm0_slices_IndexFunc_impl_Symbol_impl_Symbol (lb0_slices_IndexFunc_impl_Symbol_impl_Symbol env) tm h) (loopT (s0_slices_IndexFunc_impl_Symbol_impl_Symbol (P f_) s_) st) (fun (q : Sum Unit Int) (r : Res) => match q with | .inl _ => ∃ (z6 : AV) (z7 : AV) (h4 : Heap), r = (.exit 0, [Sl.enc s_, AV.fn g (caps f_), und, und, z6, z7, Sl.enc s_, iv (((s_.getD []).length : Nat) : Int), AV.top, AV.top, AV.top, AV.top, AV.top, AV.top, AV.top, AV.top, AV.top, AV.top, AV.top], h4) ∧ Hold B h4 [] | .inr q10 => ∃ (q11 : Int) (h8 : Heap), r = (.ret, [Sl.enc s_, AV.fn g (caps f_), und, und, iv q10, iv q11, Sl.enc s_, iv (((s_.getD []).length : Nat) : Int), AV.top, AV.top, AV.top, AV.top, AV.top, AV.top, AV.top, AV.top, AV.top, AV.top, AV.top], h8) ∧ Hold B h8 []) := by
  refine loop_sim (Rel := fun (st : Int) tm h1 => match st with | w3 => tm = [Sl.enc s_, AV.fn g (caps f_), und, und, AV.top, AV.top, Sl.enc s_, iv (((s_.getD []).length : Nat) : Int), iv w3, AV.top, AV.top, AV.top, AV.top, AV.top, AV.top, AV.top, AV.top, AV.top, AV.top] ∧ Hold B h1 []) (fun w3 tm h1 R => ?_) R
  obtain ⟨rfl, O2⟩ := R
  rw [e_lb0_slices_IndexFunc_impl_Symbol_impl_Symbol]
  unfold s0_slices_IndexFunc_impl_Symbol_impl_Symbol
  dsimp only
  refine sim_let (v := bv (decide (w3 < (((s_.getD []).length : Nat) : Int)))) (aBin_lss _ _) ?_
  refine sim_cond (fun c12 => ?_) (fun c12 => ?_)
  · refine sim_get (Tab.enc h1 s_) (fun m14 a13 hi15 hm16 => ?_)
    refine sim_let (v := AV.agg [sv a13.label, iv a13.box.x1, iv a13.box.y1, iv a13.box.x2, iv a13.box.y2]) ((Tab.enc h1 s_).ld hm16 true 5 0) ?_
    refine sim_bind2 (hp f_ a13 _) (fun c17 v18 hh19 hq20 => ?_)
    cases hq20
    refine sim_cond (fun c21 => ?_) (fun c21 => ?_)
    · exact sim_ret ⟨nofun, _, _, rfl, O2⟩
    · refine sim_let (v := iv (wr (w3 + 1))) (aBin_add _ _) ?_
      exact sim_ret ⟨rfl, rfl, O2⟩
  · exact sim_ret ⟨nofun, _, _, _, rfl, O2⟩
theorem ts_slices_IndexFunc_impl_Symbol_impl_Symbol (env : Nat → Contract) {K : Type} [Cod K] {g : Nat} {caps : K → List AV} {P : K → Symbol → Option Bool} (hp : ∀ k (a : Symbol) h, Sim (aCall (env g) (AV.agg (Row.cells a) :: caps k) h) (P k a) fun b r => r = (bv b, h))  (s_ : Sl Symbol) (f_ : K) : Sim (denFn Tryd.prog env n_slices_IndexFunc_impl_Symbol_impl_Symbol [Sl.enc s_, AV.fn g (caps f_)] []) (t_slices_IndexFunc_impl_Symbol_impl_Symbol (P f_) s_) fun c p => release p.2 depth p.1 = some ((fun c : Int => enc c) c) := by
  have O := Hold.nil []
  generalize hB : (⟨[], []⟩ : Base) = B at O
  clear hB
  rw [e_slices_IndexFunc_impl_Symbol_impl_Symbol]
  unfold t_slices_IndexFunc_impl_Symbol_impl_Symbol
  refine sim_let (v := iv (((s_.getD []).length : Nat) : Int)) (Tab.enc [] s_).len ?_
  refine sim_bind ((tl0_slices_IndexFunc_impl_Symbol_impl_Symbol env hp s_ f_) ⟨rfl, O⟩) (fun qq26 r hq => ?_)
  rcases qq26 with _ | q10
  · obtain ⟨z6, z7, h4, rfl, O5⟩ := hq
    rw [e_lk0x0_slices_IndexFunc_impl_Symbol_impl_Symbol]
    exact sim_ret (release_plain (by rfl) _)
  · obtain ⟨q11, h8, rfl, O9⟩ := hq
    rw [e_lk0r_slices_IndexFunc_impl_Symbol_impl_Symbol]
    exact sim_ret (release_plain (by rfl) _)
theorem tt0_slices_IndexFunc_impl_Symbol_impl_Symbol {g : Nat} {t : Symbol → Option Bool} (hg : PureOK Tryd.prog g (C1 (fun c : Bool => enc c) t)) : PureOK Tryd.prog n_slices_IndexFunc_impl_Symbol_impl_Symbol (C2 (fun c : Int => enc c) (fun (q : Sl Symbol) (k : Clo0 g) => t_slices_IndexFunc_impl_Symbol_impl_Symbol ((fun _ : Clo0 g => t) k) q)) := pureC2 (Econs hg E0) mixed hb_slices_IndexFunc_impl_Symbol_impl_Symbol fun q k => ts_slices_IndexFunc_impl_Symbol_impl_Symbol _ (caps := fun _ => []) (P := (fun _ : Clo0 g => t)) (fun k a h => callP0 (by simp [envL]) (snapD_nr _ a rfl)) q k
theorem tt1_slices_IndexFunc_impl_Symbol_impl_Symbol {g : Nat} {X : Type} [Row X] {tp : Symbol → Pt X → Option Bool} (hg : PureOK Tryd.prog g (C2 (fun c : Bool => enc c) tp)) : PureOK Tryd.prog n_slices_IndexFunc_impl_Symbol_impl_Symbol (C2 (fun c : Int => enc c) (fun (q : Sl Symbol) (k : Clo g (Pt X)) => t_slices_IndexFunc_impl_Symbol_impl_Symbol ((fun (k : Clo g (Pt X)) a => tp a k.val) k) q)) := pureC2 (Econs hg E0) mixed hb_slices_IndexFunc_impl_Symbol_impl_Symbol fun q k => ts_slices_IndexFunc_impl_Symbol_impl_Symbol _ (caps := fun k : Clo g (Pt X) => [enc k.val]) (P := (fun (k : Clo g (Pt X)) a => tp a k.val)) (fun k a h => callP1 (by simp [envL]) (snapD_nr _ a rfl) (snapD_fptr _ _ _ _ rfl)) q k

def t_slices_ContainsFunc_impl_Symbol_impl_Symbol (p_ : Symbol → Option Bool) (s_ : Sl Symbol) : Option Bool :=
  obind (t_slices_IndexFunc_impl_Symbol_impl_Symbol p_ s_) fun c1 =>
  some (decide (0 ≤ c1))

theorem ts_slices_ContainsFunc_impl_Symbol_impl_Symbol (env : Nat → Contract) {K : Type} [Cod K] {g : Nat} {caps : K → List AV} {P : K → Symbol → Option Bool} (hs : ∀ k h, snapD h (AV.fn g (caps k)) = some k) (he_slices_IndexFunc_impl_Symbol_impl_Symbol : env n_slices_IndexFunc_impl_Symbol_impl_Symbol = .pure (C2 (fun c : Int => enc c) (fun (q : Sl Symbol) (k : K) => t_slices_IndexFunc_impl_Symbol_impl_Symbol (P k) q))) (s_ : Sl Symbol) (f_ : K) : Sim (denFn Tryd.prog env n_slices_ContainsFunc_impl_Symbol_impl_Symbol [Sl.enc s_, AV.fn g (caps f_)] []) (t_slices_ContainsFunc_impl_Symbol_impl_Symbol (P f_) s_) fun c p => release p.2 depth p.1 = some ((fun c : Bool => enc c) c) := by
  have O := Hold.nil []
  generalize hB : (⟨[], []⟩ : Base) = B at O
  clear hB
  rw [e_slices_ContainsFunc_impl_Symbol_impl_Symbol]
  unfold t_slices_ContainsFunc_impl_Symbol_impl_Symbol
  refine sim_call2 (t := fun (q : Sl Symbol) (k : K) => t_slices_IndexFunc_impl_Symbol_impl_Symbol (P k) q) he_slices_IndexFunc_impl_Symbol_impl_Symbol (snapD_enc _ _) (hs f_ _) (fun c1 => ?_)
  refine sim_let2 (hand_plain (by rfl) _ _) ?_
  refine sim_let (v := bv (decide (0 ≤ c1))) (aBin_geq _ _) ?_
  exact sim_ret (release_plain (by rfl) _)
theorem tt0_slices_ContainsFunc_impl_Symbol_impl_Symbol {g : Nat} {t : Symbol → Option Bool} (hg : PureOK Tryd.prog g (C1 (fun c : Bool => enc c) t)) : PureOK Tryd.prog n_slices_ContainsFunc_impl_Symbol_impl_Symbol (C2 (fun c : Bool => enc c) (fun (q : Sl Symbol) (k : Clo0 g) => t_slices_ContainsFunc_impl_Symbol_impl_Symbol ((fun _ : Clo0 g => t) k) q)) := pureC2 (Econs (tt0_slices_IndexFunc_impl_Symbol_impl_Symbol hg) E0) mixed hb_slices_ContainsFunc_impl_Symbol_impl_Symbol fun q k => ts_slices_ContainsFunc_impl_Symbol_impl_Symbol _ (caps := fun _ => []) (P := (fun _ : Clo0 g => t)) (fun k h => snapD_clo0 h g) (by simp [envL]) q k
theorem tt1_slices_ContainsFunc_impl_Symbol_impl_Symbol {g : Nat} {X : Type} [Row X] {tp : Symbol → Pt X → Option Bool} (hg : PureOK Tryd.prog g (C2 (fun c : Bool => enc c) tp)) : PureOK Tryd.prog n_slices_ContainsFunc_impl_Symbol_impl_Symbol (C2 (fun c : Bool => enc c) (fun (q : Sl Symbol) (k : Clo g (Pt X)) => t_slices_ContainsFunc_impl_Symbol_impl_Symbol ((fun (k : Clo g (Pt X)) a => tp a k.val) k) q)) := pureC2 (Econs (tt1_slices_IndexFunc_impl_Symbol_impl_Symbol hg) E0) mixed hb_slices_ContainsFunc_impl_Symbol_impl_Symbol fun q k => ts_slices_ContainsFunc_impl_Symbol_impl_Symbol _ (caps := fun k : Clo g (Pt X) => [enc k.val]) (P := (fun (k : Clo g (Pt X)) a => tp a k.val)) (fun k h => snapD_cloE h k) (by simp [envL]) q k

def t_impl_ValidSymbols (list_ : Sl Symbol) : Option Bool :=
  obind (bif decide ((((list_.getD []).length : Nat) : Int) ≤ 8) then (obind (t_slices_ContainsFunc_impl_Symbol_impl_Symbol (fun a => some ((fun s : Symbol => !okSym s) a)) list_) fun c2 => some (!c2)) else some false) fun c3 =>
  some (bif decide ((((list_.getD []).length : Nat) : Int) ≤ 8) then c3 else false)

theorem ts_impl_ValidSymbols (env : Nat → Contract) (he_slices_ContainsFunc_impl_Symbol_impl_Symbol : env n_slices_ContainsFunc_impl_Symbol_impl_Symbol = .pure (C2 (fun c : Bool => enc c) (fun (q : Sl Symbol) (k : Clo0 n_impl_ValidSymbols_1) => t_slices_ContainsFunc_impl_Symbol_impl_Symbol ((fun _ : Clo0 n_impl_ValidSymbols_1 => (fun a => some ((fun s : Symbol => !okSym s) a))) k) q))) (list_ : Sl Symbol) : Sim (denFn Tryd.prog env n_impl_ValidSymbols [Sl.enc list_] []) (t_impl_ValidSymbols list_) fun c p => release p.2 depth p.1 = some ((fun c : Bool => enc c) c) := by
  have O := Hold.nil []
  generalize hB : (⟨[], []⟩ : Base) = B at O
  clear hB
  rw [e_impl_ValidSymbols]
  unfold t_impl_ValidSymbols
  refine sim_let (v := iv (((list_.getD []).length : Nat) : Int)) (Tab.enc [] list_).len ?_
  refine sim_let (v := bv (decide ((((list_.getD []).length : Nat) : Int) ≤ 8))) (aBin_leq _ _) ?_
  refine sim_guardT (e := bv) (fun hb1 => ?_) (fun c3 => ?_)
  · refine sim_call2 (t := fun (q : Sl Symbol) (k : Clo0 n_impl_ValidSymbols_1) => t_slices_ContainsFunc_impl_Symbol_impl_Symbol ((fun _ : Clo0 n_impl_ValidSymbols_1 => (fun a => some ((fun s : Symbol => !okSym s) a))) k) q) he_slices_ContainsFunc_impl_Symbol_impl_Symbol (snapD_enc _ _) (snapD_clo0 _ _) (fun c2 => ?_)
    refine sim_let2 (hand_plain (by rfl) _ _) ?_
    refine sim_let (v := bv (!c2)) (aUn_not _) ?_
    exact sim_ret rfl
  · refine sim_let (v := bv (bif decide ((((list_.getD []).length : Nat) : Int) ≤ 8) then c3 else false)) (pick_b _ _ _) ?_
    exact sim_ret (release_plain (by rfl) _)
theorem tt_impl_ValidSymbols : PureOK Tryd.prog n_impl_ValidSymbols (C1 (fun c : Bool => enc c) t_impl_ValidSymbols) := pureC1 (Econs (tt0_slices_ContainsFunc_impl_Symbol_impl_Symbol (C1_T1 ok_impl_ValidSymbols_1)) E0) mixed hb_impl_ValidSymbols fun list_ => ts_impl_ValidSymbols _ (by simp [envL]) list_

def s0_laws_eqSymbolS (a_ : Sl Symbol) (b_ : Sl Symbol) : Int → Option (Sum Int (Sum Unit Bool)) := fun w4 =>
  bif decide (w4 < (((a_.getD []).length : Nat) : Int)) then
    obind (getI (a_.getD []) w4) fun a14 =>
    obind (getI (b_.getD []) w4) fun a18 =>
    obind (some ((fun a b : Symbol => decide (a = b)) a14 a18)) fun c22 =>
    bif !c22 then
      some (.inr (.inr false))
    else
      some (.inl (wr (w4 + 1)))
  else
    some (.inr (.inl ()))
def t_laws_eqSymbolS (a_ : Sl Symbol) (b_ : Sl Symbol) : Option Bool :=
  bif !decide ((((a_.getD []).length : Nat) : Int) = (((b_.getD []).length : Nat) : Int)) then
    some false
  else
    obind (loopT (s0_laws_eqSymbolS a_ b_) 0) fun qq28 => match qq28 with
    | (.inl _) =>
        some true
    | (.inr q11) =>
        some q11

theorem tl0_laws_eqSymbolS (env : Nat → Contract) {B : Base} (he_laws_eqSymbol : env n_laws_eqSymbol = .pure (T2 (fun a b : Symbol => decide (a = b)))) (a_ : Sl Symbol) (b_ : Sl Symbol)  {st : Int} {tm : TM} {h : Heap} (R : (fun (st : Int) tm h2 => match st with | w4 => tm = [Sl.enc a_, Sl.enc b_, und, und, AV.top, iv w4, Sl.enc a_, iv (((a_.getD []).length : Nat) : Int), Sl.enc b_, iv (((b_.getD []).length : Nat) : Int), bv (!decide ((((a_.getD []).length : Nat) : Int) = (((b_.getD []).length : Nat) : Int))), AV.top, AV.top, AV.top, AV.top, AV.top, AV.top, AV.top, AV.top, AV.top, AV.top, AV.top, AV.top, AV.top, AV.top, AV.top, AV.top] ∧ Hold B h2 []) st tm h) : Sim (loopP hm0_laws_eqSymbolS xm0_laws_eqSymbolS (lb0_laws_eqSymbolS env) tm h) (loopT (s0_laws_eqSymbolS a_ b_) st) (fun (q : Sum Unit Bool) (r : Res) => match q with | .inl _ => ∃ (q8 : Int) (z7 : AV) (h5 : Heap), r = (.exit 0, [Sl.enc a_, Sl.enc b_, und, und, z7, iv q8, Sl.enc a_, iv (((a_.getD []).length : Nat) : Int), Sl.enc b_, iv (((b_.getD []).length : Nat) : Int), bv (!decide ((((a_.getD []).length : Nat) : Int) = (((b_.getD []).length : Nat) : Int))), AV.top, AV.top, AV.top, AV.top, AV.top, AV.top, AV.top, AV.top, AV.top, AV.top, AV.top, AV.top, AV.top, AV.top, AV.top, AV.top], h5) ∧ Hold B h5 [] | .inr q11 => ∃ (q12 : Int) (h9 : Heap), r = (.ret, [Sl.enc a_, Sl.enc b_, und, und, bv q11, iv q12, Sl.enc a_, iv (((a_.getD []).length : Nat) : Int), Sl.enc b_, iv (((b_.getD []).length : Nat) : Int), bv (!decide ((((a_.getD []).length : Nat) : Int) = (((b_.getD []).length : Nat) : Int))), AV.top, AV.top, AV.top, AV.top, AV.top, AV.top, AV.top, AV.top, AV.top, AV.top, AV.top, AV.top, AV.top, AV.top, AV.top, AV.top], h9) ∧ Hold B h9 []) := by
  refine loop_sim (Rel := fun (st : Int) tm h2 => match st with | w4 => tm = [Sl.enc a_, Sl.enc b_, und, und, AV.top, iv w4, Sl.enc a_, iv (((a_.getD []).length : Nat) : Int), Sl.enc b_, iv (((b_.getD []).length : Nat) : Int), bv (!decide ((((a_.getD []).length : Nat) : Int) = (((b_.getD []).length : Nat) : Int))), AV.top, AV.top, AV.top, AV.top, AV.top, AV.top, AV.top, AV.top, AV.top, AV.top, AV.top, AV.top, AV.top, AV.top, AV.top, AV.top] ∧ Hold B h2 []) (fun w4 tm h2 R => ?_) R
  obtain ⟨rfl, O3⟩ := R
  rw [e_lb0_laws_eqSymbolS]
  unfold s0_laws_eqSymbolS
  dsimp only
  refine sim_let (v := iv (((a_.getD []).length : Nat) : Int)) (Tab.enc h2 a_).len ?_
  refine sim_let (v := bv (decide (w4 < (((a_.getD []).length : Nat) : Int)))) (aBin_lss _ _) ?_
  refine sim_cond (fun c13 => ?_) (fun c13 => ?_)
  · refine sim_get (Tab.enc h2 a_) (fun m15 a14 hi16 hm17 => ?_)
    refine sim_let (v := AV.agg [sv a14.label, iv a14.box.x1, iv a14.box.y1, iv a14.box.x2, iv a14.box.y2]) ((Tab.enc h2 a_).ld hm17 true 5 0) ?_
    refine sim_get (Tab.enc h2 b_) (fun m19 a18 hi20 hm21 => ?_)
    refine sim_let (v := AV.agg [sv a18.label, iv a18.box.x1, iv a18.box.y1, iv a18.box.x2, iv a18.box.y2]) ((Tab.enc h2 b_).ld hm21 true 5 0) ?_
    refine sim_callVQ2 (t := (fun a b : Symbol => decide (a = b))) he_laws_eqSymbol (snapD_nr _ a14 rfl) (snapD_nr _ a18 rfl) (fun c22 => ?_)
    refine sim_let (v := bv (!c22)) (aUn_not _) ?_
    refine sim_cond (fun c23 => ?_) (fun c23 => ?_)
    · exact sim_ret ⟨nofun, _, _, rfl, O3⟩
    · refine sim_let (v := iv (wr (w4 + 1))) (aBin_add _ _) ?_
      exact sim_ret ⟨rfl, rfl, O3⟩
  · exact sim_ret ⟨nofun, _, _, _, rfl, O3⟩
theorem ts_laws_eqSymbolS (env : Nat → Contract) (he_laws_eqSymbol : env n_laws_eqSymbol = .pure (T2 (fun a b : Symbol => decide (a = b)))) (a_ : Sl Symbol) (b_ : Sl Symbol) : Sim (denFn Tryd.prog env n_laws_eqSymbolS [Sl.enc a_, Sl.enc b_] []) (t_laws_eqSymbolS a_ b_) fun c p => release p.2 depth p.1 = some ((fun c : Bool => enc c) c) := by
  have O := Hold.nil []
  generalize hB : (⟨[], []⟩ : Base) = B at O
  clear hB
  rw [e_laws_eqSymbolS]
  unfold t_laws_eqSymbolS
  refine sim_let (v := iv (((a_.getD []).length : Nat) : Int)) (Tab.enc [] a_).len ?_
  refine sim_let (v := iv (((b_.getD []).length : Nat) : Int)) (Tab.enc [] b_).len ?_
  refine sim_let (v := bv (!decide ((((a_.getD []).length : Nat) : Int) = (((b_.getD []).length : Nat) : Int)))) (aCmp_ne _ _) ?_
  refine sim_cond (fun c1 => ?_) (fun c1 => ?_)
  · exact sim_ret (release_plain (by rfl) _)
  · refine sim_bind ((tl0_laws_eqSymbolS env he_laws_eqSymbol a_ b_) ⟨rfl, O⟩) (fun qq28 r hq => ?_)
    rcases qq28 with _ | q11
    · obtain ⟨q8, z7, h5, rfl, O6⟩ := hq
      rw [e_lk0x0_laws_eqSymbolS]
      exact sim_ret (release_plain (by rfl) _)
    · obtain ⟨q12, h9, rfl, O10⟩ := hq
      rw [e_lk0r_laws_eqSymbolS]
      exact sim_ret (release_plain (by rfl) _)
theorem tt_laws_eqSymbolS : PureOK Tryd.prog n_laws_eqSymbolS (C2 (fun c : Bool => enc c) t_laws_eqSymbolS) := pureC2 (Econs ok_laws_eqSymbol E0) mixed hb_laws_eqSymbolS fun a_ b_ => ts_laws_eqSymbolS _ (by simp [envL]) a_ b_

/-- The source has been read up to `k` at most. -/
structure SK (s : l00Src) (k : Int) : Prop where
  lo : 0 ≤ s.pos
  hi : s.pos ≤ k

theorem SK.mono {s : l00Src} {k k' : Int} (h : SK s k) (hk : k ≤ k') : SK s k' := ⟨h.lo, by have := h.hi; omega⟩

theorem wr_succ {k n : Nat} (h : k < n) (hn : n ≤ 4294967296) : wr ((k : Int) + 1) = ((k + 1 : Nat) : Int) := by
  rw [wr_id (by omega) (by omega)]
  omega

theorem get_lt {A : Type} {l : List A} {k : Nat} {a : A} (h : l[k]? = some a) : k < l.length := (List.getElem?_eq_some_iff.1 h).1

/-- A point that is one; the points of a stroke that is one. -/
structure PtV (p : Point) : Prop where
  x0 : 0 ≤ p.x
  x1 : p.x ≤ 4095
  y0 : 0 ≤ p.y
  y1 : p.y ≤ 4095
  t0 : 0 ≤ p.t
  t1 : p.t ≤ 3600000

structure StV (l : List Point) : Prop where
  pts : ∀ p ∈ l, PtV p
  inc : ∀ (k : Nat) p q, l[k]? = some p → l[k + 1]? = some q → p.t < q.t
  n1 : 1 ≤ l.length
  n2 : l.length ≤ 60

/-- Points of a bounded size. -/
structure PtB (p : Point) : Prop where
  x0 : -10000000 ≤ p.x
  x1 : p.x ≤ 10000000
  y0 : -10000000 ≤ p.y
  y1 : p.y ≤ 10000000
  t0 : -10000000 ≤ p.t
  t1 : p.t ≤ 10000000

structure StB (s : Stroke) : Prop where
  n : (s.points.getD []).length ≤ 100
  pts : ∀ p ∈ s.points.getD [], PtB p

theorem PtV.b {p : Point} (h : PtV p) : PtB p := by
  obtain ⟨h1, h2, h3, h4, h5, h6⟩ := h
  exact ⟨by omega, by omega, by omega, by omega, by omega, by omega⟩

theorem StV.b {l : List Point} (h : StV l) : StB ⟨some l⟩ := ⟨Nat.le_trans h.n2 (by omega), fun p hp => (h.pts p hp).b⟩

/-- Ink that is one. -/
structure InkV (L : List Stroke) : Prop where
  st : ∀ s ∈ L, ∃ l, s = ⟨some l⟩ ∧ StV l
  inc : ∀ (k : Nat) l l', L[k]? = some ⟨some l⟩ → L[k + 1]? = some ⟨some l'⟩ → ∀ p ∈ l, ∀ q ∈ l', p.t < q.t
  n : L.length ≤ 16

theorem InkV.b {L : List Stroke} (h : InkV L) : ∀ x ∈ L, StB x := fun x hx => by
  obtain ⟨l, rfl, hl⟩ := h.st x hx
  exact hl.b

theorem firstL_so {A R : Type} {f : Nat → A → Option R} : ∀ {l : List A} {k : Nat} {r : R}, firstL f l k = some r → ∃ i a, f i a = some r
  | [], _, _, h => by cases h
  | b :: l, k, r, h => by
    unfold firstL at h
    cases e : f k b with
    | some r' => rw [e] at h; cases h; exact ⟨k, b, e⟩
    | none => rw [e] at h; exact firstL_so h

def pt (l : List Point) (i : Nat) : Point := l.getD i ⟨0, 0, 0⟩

/-- One pair lies ahead of another. -/
def Pre (p q i j : Nat) : Prop := (i = p + 1 ∧ j = q + 1) ∨ (i = p + 1 ∧ j = q) ∨ (i = p ∧ j = q + 1)

/-- A path's cost, from the first pair on. -/
inductive Pth (C : Nat → Nat → Int) (R : Nat → Nat → Prop) : Nat → Nat → Int → Prop
  | start : R 0 0 → Pth C R 0 0 (C 0 0)
  | step {p q i j : Nat} {c : Int} : Pth C R p q c → Pre p q i j → R i j → Pth C R i j (c + C i j)

theorem Pth.mono {C D : Nat → Nat → Int} {R S : Nat → Nat → Prop} {i j : Nat} {c : Int} (h : Pth C R i j c) (hR : ∀ p q, p ≤ i → q ≤ j → R p q → S p q) (hC : ∀ p q, p ≤ i → q ≤ j → C p q = D p q) : Pth D S i j c := by
  induction h with
  | start h =>
    rw [hC 0 0 (Nat.le_refl _) (Nat.le_refl _)]
    exact .start (hR 0 0 (Nat.le_refl _) (Nat.le_refl _) h)
  | @step p q i j c h1 h2 h3 ih =>
    have hle : p ≤ i ∧ q ≤ j := by rcases h2 with h | h | h <;> omega
    rw [hC i j (Nat.le_refl _) (Nat.le_refl _)]
    exact .step (ih (fun a b h4 h5 => hR a b (by omega) (by omega)) (fun a b h4 h5 => hC a b (by omega) (by omega))) h2 (hR i j (Nat.le_refl _) (Nat.le_refl _) h3)

/-- A table's entry. -/
def Val (T : List (Sl Int)) (p q : Nat) (v : Int) : Prop := ∃ row, T[p]? = some (some row) ∧ row[q]? = some v

theorem Val.set {T : List (Sl Int)} {i j p q : Nat} {row : List Int} {v w : Int} (hr : T[i]? = some (some row)) (hj : j < row.length) :
    Val (T.set i (some (row.set j w))) p q v ↔ (p = i ∧ q = j ∧ v = w) ∨ (¬ (p = i ∧ q = j) ∧ Val T p q v) := by
  have hi := get_lt hr
  unfold Val
  constructor
  · rintro ⟨r, h1, h2⟩
    by_cases c : i = p
    · subst c
      rw [List.getElem?_set_self hi] at h1
      cases h1
      by_cases d : j = q
      · subst d
        rw [List.getElem?_set_self hj] at h2
        cases h2
        exact .inl ⟨rfl, rfl, rfl⟩
      · rw [List.getElem?_set_ne d] at h2
        exact .inr ⟨fun h => d h.2.symm, row, hr, h2⟩
    · rw [List.getElem?_set_ne c] at h1
      exact .inr ⟨fun h => c h.1.symm, r, h1, h2⟩
  · rintro (⟨rfl, rfl, rfl⟩ | ⟨hne, r, h1, h2⟩)
    · exact ⟨_, List.getElem?_set_self hi, List.getElem?_set_self hj⟩
    · by_cases c : i = p
      · subst c
        rw [hr] at h1
        cases h1
        have d : j ≠ q := fun h => hne ⟨rfl, h.symm⟩
        exact ⟨_, List.getElem?_set_self hi, by rw [List.getElem?_set_ne d]; exact h2⟩
      · exact ⟨r, by rw [List.getElem?_set_ne c]; exact h1, h2⟩

def PVal (T : List (Sl Part)) (p q : Nat) (v : Part) : Prop := ∃ row, T[p]? = some (some row) ∧ row[q]? = some v

theorem PVal.set {T : List (Sl Part)} {i j p q : Nat} {row : List Part} {v w : Part} (hr : T[i]? = some (some row)) (hj : j < row.length) :
    PVal (T.set i (some (row.set j w))) p q v ↔ (p = i ∧ q = j ∧ v = w) ∨ (¬ (p = i ∧ q = j) ∧ PVal T p q v) := by
  have hi := get_lt hr
  unfold PVal
  constructor
  · rintro ⟨r, h1, h2⟩
    by_cases c : i = p
    · subst c
      rw [List.getElem?_set_self hi] at h1
      cases h1
      by_cases d : j = q
      · subst d
        rw [List.getElem?_set_self hj] at h2
        cases h2
        exact .inl ⟨rfl, rfl, rfl⟩
      · rw [List.getElem?_set_ne d] at h2
        exact .inr ⟨fun h => d h.2.symm, row, hr, h2⟩
    · rw [List.getElem?_set_ne c] at h1
      exact .inr ⟨fun h => c h.1.symm, r, h1, h2⟩
  · rintro (⟨rfl, rfl, rfl⟩ | ⟨hne, r, h1, h2⟩)
    · exact ⟨_, List.getElem?_set_self hi, List.getElem?_set_self hj⟩
    · by_cases c : i = p
      · subst c
        rw [hr] at h1
        cases h1
        have d : j ≠ q := fun h => hne ⟨rfl, h.symm⟩
        exact ⟨_, List.getElem?_set_self hi, by rw [List.getElem?_set_ne d]; exact h2⟩
      · exact ⟨r, by rw [List.getElem?_set_ne c]; exact h1, h2⟩

def d2 (a b : Point) : Int := (a.x - b.x) * (a.x - b.x) + (a.y - b.y) * (a.y - b.y)

def pbox (p : Point) : Box := ⟨p.x, p.y, p.x, p.y⟩

/-- One box is in another one. -/
structure InB (a b : Box) : Prop where
  x1 : b.x1 ≤ a.x1
  y1 : b.y1 ≤ a.y1
  x2 : a.x2 ≤ b.x2
  y2 : a.y2 ≤ b.y2

theorem InB.refl (a : Box) : InB a a := ⟨Int.le_refl _, Int.le_refl _, Int.le_refl _, Int.le_refl _⟩

theorem InB.trans {a b c : Box} (h : InB a b) (g : InB b c) : InB a c := ⟨Int.le_trans g.x1 h.x1, Int.le_trans g.y1 h.y1, Int.le_trans h.x2 g.x2, Int.le_trans h.y2 g.y2⟩

theorem PtV.box {p : Point} (h : PtV p) : InB (pbox p) ⟨0, 0, 4095, 4095⟩ := ⟨h.x0, h.y0, h.x1, h.y1⟩

def side (b : Box) : Int := max (max (b.x2 - b.x1) (b.y2 - b.y1)) 1

/-- A copy, element by element. -/
theorem copyLoop {A : Type} (d : A) (l : List A) (hl : l.length ≤ 4294967296) (step : ((Sl A) × Int) → Option (Sum ((Sl A) × Int) (Sl A)))
    (next : ∀ (M : List A) (k : Nat) (a : A), M.length = l.length → l[k]? = some a → step (some M, (k : Int)) = some (.inl (some (M.set k a), wr ((k : Int) + 1))))
    (fin : ∀ w : Sl A, step (w, ((l.length : Nat) : Int)) = some (.inr w)) : loopT step (some (List.replicate l.length d), 0) = some (some l) := by
  obtain ⟨r, h1, h2⟩ := loopT_ex (step := step) (fun k t => ∃ M, t = (some M, (k : Int)) ∧ M.length = l.length ∧ ∀ j, j < k → M[j]? = l[j]?) l.length (fun r => r = some l)
    (fun k t hk ht => by
      obtain ⟨M, rfl, m1, m2⟩ := ht
      obtain ⟨a, ha⟩ : ∃ a, l[k]? = some a := ⟨l[k], List.getElem?_eq_getElem hk⟩
      have e := next M k a m1 ha
      rw [wr_succ hk hl] at e
      refine .inl ⟨_, e, _, rfl, by rw [List.length_set, m1], fun j hj => ?_⟩
      by_cases c : j = k
      · subst c
        rw [List.getElem?_set_self (by omega), ha]
      · rw [List.getElem?_set_ne (fun h => c h.symm)]
        exact m2 j (by omega))
    (fun t ht => by
      obtain ⟨M, rfl, m1, m2⟩ := ht
      refine ⟨_, fin _, ?_⟩
      congr 1
      apply List.ext_getElem?
      intro j
      by_cases c : j < l.length
      · exact m2 j c
      · rw [List.getElem?_eq_none (by omega), List.getElem?_eq_none (by omega)])
    (s := (some (List.replicate l.length d), 0)) ⟨_, rfl, by simp, fun j hj => by omega⟩
  rw [h1, h2]

theorem toSymbolS_ok (a : Sl Symbol) (hl : (a.getD []).length ≤ 4294967296) : t_laws_toSymbolS a = some (some (a.getD [])) := by
  have mk : makeO (⟨(⟨#[]⟩ : ByteArray), ⟨0, 0, 0, 0⟩⟩ : Symbol) (((a.getD []).length : Nat) : Int) = some (List.replicate (a.getD []).length ⟨(⟨#[]⟩ : ByteArray), ⟨0, 0, 0, 0⟩⟩) := by
    unfold makeO
    rw [if_pos ⟨by omega, by omega⟩, Int.toNat_natCast]
  have lp := copyLoop (⟨(⟨#[]⟩ : ByteArray), ⟨0, 0, 0, 0⟩⟩ : Symbol) (a.getD []) hl (s0_laws_toSymbolS a) (fun M k x hM hx => by
    have hk := get_lt hx
    have c : (k : Int) < (((a.getD []).length : Nat) : Int) := by omega
    obtain ⟨y, hy⟩ : ∃ y, M[k]? = some y := ⟨M[k]'(by omega), List.getElem?_eq_getElem _⟩
    unfold s0_laws_toSymbolS
    simp only [c, decide_true, cond_true, getI_nat hx, obind_sm, Option.getD_some, getI_nat hy, setS, Option.map_some, Int.toNat_natCast]) (fun w => by
    unfold s0_laws_toSymbolS
    simp only [Int.lt_irrefl, decide_false, cond_false])
  unfold t_laws_toSymbolS
  rw [mk, obind_sm, lp, obind_sm]

theorem eqSy_ok {a b : Sl Symbol} (h : a.getD [] = b.getD []) (hl : (a.getD []).length ≤ 4294967296) : t_laws_eqSymbolS a b = some true := by
  have lp := loopT_first (step := s0_laws_eqSymbolS a b) (a.getD []) (fun _ _ => (none : Option Bool)) (.inl ()) .inr
    (fun k x hx => by
      have hk := get_lt hx
      have c : (k : Int) < ((a.getD []).length : Nat) := by omega
      unfold s0_laws_eqSymbolS
      simp only [c, decide_true, cond_true, getI_nat hx, ← h, obind_sm, Bool.not_true, cond_false, wr_succ hk hl])
    (by
      unfold s0_laws_eqSymbolS
      simp only [Int.lt_irrefl, decide_false, cond_false])
  rw [firstL_none (fun _ _ _ => rfl)] at lp
  unfold t_laws_eqSymbolS
  rw [lp, ← h]
  simp

theorem szSymbolS_ok (a : Sl Symbol) (hl0 : (a.getD []).length ≤ 9223372036854775807) : ∃ r, t_laws_szSymbolS a 1048576 = some r ∧ (r < 0 ∨ (a.getD []).length ≤ 1048576) := by
  have ws : wr (1048576 - (((a.getD []).length : Nat) : Int)) = 1048576 - (((a.getD []).length : Nat) : Int) := wr_id (by omega) (by omega)
  by_cases c1 : 1048576 - (((a.getD []).length : Nat) : Int) < 0
  · refine ⟨-1, ?_, .inl (by omega)⟩
    unfold t_laws_szSymbolS
    rw [ws]
    simp [c1]
  have hn : (a.getD []).length ≤ 1048576 := by omega
  have hl : (a.getD []).length ≤ 4294967296 := by omega
  have sz : ∀ (x : Symbol) (k : Int), ∃ r, t_laws_szSymbol x k = some r := fun x k => by
    unfold t_laws_szSymbol
    cases decide (wr (k - (x.label.size : Int)) < 0) with
    | true => exact ⟨_, rfl⟩
    | false => exact ⟨_, rfl⟩
  obtain ⟨q, e, _⟩ := loopT_ex (step := s0_laws_szSymbolS a) (fun k t => t.2 = (k : Int)) (a.getD []).length (fun _ => True)
    (fun k ⟨w, i⟩ hk h2 => by
      simp only at h2
      subst h2
      have c : (k : Int) < (((a.getD []).length : Nat) : Int) := by omega
      obtain ⟨x, hx⟩ : ∃ x, (a.getD [])[k]? = some x := ⟨_, List.getElem?_eq_getElem hk⟩
      obtain ⟨r, hr⟩ := sz x w
      unfold s0_laws_szSymbolS
      simp only [c, decide_true, cond_true, getI_nat hx, obind_sm, hr, wr_succ hk hl]
      cases decide (r < 0) with
      | true => exact .inr ⟨_, rfl, trivial⟩
      | false => exact .inl ⟨_, rfl, rfl⟩)
    (fun ⟨w, i⟩ h2 => by
      simp only at h2
      subst h2
      refine ⟨.inl w, ?_, trivial⟩
      unfold s0_laws_szSymbolS
      simp only [Int.lt_irrefl, decide_false, cond_false])
    (s := (1048576 - (((a.getD []).length : Nat) : Int), 0)) rfl
  have d : decide (1048576 - (((a.getD []).length : Nat) : Int) < 0) = false := decide_eq_false c1
  cases q with
  | inl q =>
    refine ⟨q, ?_, .inr hn⟩
    unfold t_laws_szSymbolS
    rw [ws, d, cond_false, e]
    rfl
  | inr q =>
    refine ⟨q, ?_, .inr hn⟩
    unfold t_laws_szSymbolS
    rw [ws, d, cond_false, e]
    rfl

def fSy (_ : Nat) (b : Symbol) : Option Bool := bif !okSym b then some false else none

/-- The symbols are valid. -/
def okSys (l : List Symbol) : Bool := match firstL fSy l 0 with
  | none => decide (l.length ≤ 8)
  | some r => r

theorem l20Ok_ok (s : Sl Symbol) (hl : (s.getD []).length ≤ 4294967296) : t_spec_l20Ok s = some (okSys (s.getD [])) := by
  have lp := loopT_first (step := s0_spec_l20Ok s) (s.getD []) fSy (.inl ()) .inr
    (fun k x hx => by
      have hk := get_lt hx
      have c : (k : Int) < (((s.getD []).length : Nat) : Int) := by omega
      unfold s0_spec_l20Ok fSy okSym
      simp only [c, decide_true, cond_true, getI_nat hx, obind_sm, wr_succ hk hl]
      cases isLabel x.label <;> cases validBox x.box <;> rfl)
    (by
      unfold s0_spec_l20Ok
      simp only [Int.lt_irrefl, decide_false, cond_false])
  have d : decide ((((s.getD []).length : Nat) : Int) ≤ 8) = decide ((s.getD []).length ≤ 8) := decide_eq_decide.2 (by omega)
  unfold t_spec_l20Ok okSys
  rw [lp]
  cases firstL fSy (s.getD []) 0 with
  | none => simp only [obind_sm, d]
  | some r => rfl

theorem fSy_some {l : List Symbol} {r : Bool} {k : Nat} (h : firstL fSy l k = some r) : r = false := by
  obtain ⟨i, a, hf⟩ := firstL_so h
  unfold fSy at hf
  cases h2 : okSym a <;> rw [h2] at hf <;> cases hf
  rfl

theorem validSys_ok (s : Sl Symbol) (hl : (s.getD []).length ≤ 4294967296) : t_impl_ValidSymbols s = some (okSys (s.getD [])) := by
  have lp := loopT_first (step := s0_slices_IndexFunc_impl_Symbol_impl_Symbol (fun a => some ((fun b : Symbol => !okSym b) a)) s) (s.getD []) (fun k a => bif !okSym a then some (k : Int) else none) (.inl ()) .inr
    (fun k a ha => by
      have hk := get_lt ha
      have c : (k : Int) < (((s.getD []).length : Nat) : Int) := by omega
      unfold s0_slices_IndexFunc_impl_Symbol_impl_Symbol
      simp only [c, decide_true, cond_true, getI_nat ha, obind_sm, wr_succ hk hl]
      cases okSym a <;> rfl)
    (by
      unfold s0_slices_IndexFunc_impl_Symbol_impl_Symbol
      simp only [Int.lt_irrefl, decide_false, cond_false])
  have key : ∀ (l : List Symbol) (k : Nat), (firstL (fun (k : Nat) a => bif !okSym a then some (k : Int) else none) l k = none ∧ firstL fSy l k = none) ∨ ∃ r, firstL (fun (k : Nat) a => bif !okSym a then some (k : Int) else none) l k = some r ∧ 0 ≤ r ∧ firstL fSy l k = some false := by
    intro l
    induction l with
    | nil => intro k; exact .inl ⟨rfl, rfl⟩
    | cons a l ih =>
      intro k
      unfold firstL fSy
      cases e : okSym a with
      | true =>
        simp only [Bool.not_true, cond_false]
        exact ih (k + 1)
      | false => exact .inr ⟨(k : Int), rfl, by omega, rfl⟩
  have cf : t_slices_ContainsFunc_impl_Symbol_impl_Symbol (fun a => some ((fun s : Symbol => !okSym s) a)) s = some (firstL fSy (s.getD []) 0).isSome := by
    unfold t_slices_ContainsFunc_impl_Symbol_impl_Symbol t_slices_IndexFunc_impl_Symbol_impl_Symbol
    rw [lp]
    rcases key (s.getD []) 0 with ⟨h1, h2⟩ | ⟨r, h1, h2, h3⟩
    · rw [h1, h2]
      simp
    · rw [h1, h3]
      simp [h2]
  have d : decide ((((s.getD []).length : Nat) : Int) ≤ 8) = decide ((s.getD []).length ≤ 8) := decide_eq_decide.2 (by omega)
  unfold t_impl_ValidSymbols okSys
  rw [cf, d]
  cases h : firstL fSy (s.getD []) 0 with
  | none => cases decide ((s.getD []).length ≤ 8) <;> rfl
  | some r =>
    have := fSy_some h
    subst this
    cases decide ((s.getD []).length ≤ 8) <;> rfl

theorem okSys_len {l : List Symbol} (h : okSys l = true) : l.length ≤ 8 := by
  unfold okSys at h
  cases e : firstL fSy l 0 with
  | some r =>
    rw [e] at h
    simp only at h
    rw [fSy_some e] at h
    cases h
  | none =>
    rw [e] at h
    exact of_decide_eq_true h

/-- The digits of a number; none for 0. -/
def digs (m : Nat) : List UInt8 := if m = 0 then [] else Lib.decDigits m

theorem digs_step {m : Nat} (h : 0 < m) : digs m = digs (m / 10) ++ [UInt8.ofNat (48 + m % 10)] := by
  unfold digs
  rw [if_neg (by omega)]
  by_cases c : m < 10
  · rw [Lib.decDigits, dif_pos c, if_pos (by omega), Nat.mod_eq_of_lt c]
    rfl
  · rw [Lib.decDigits, dif_neg c, if_neg (by omega)]

theorem byteI_small {n : Nat} (h : n < 256) : byteI (n : Int) = UInt8.ofNat n := by
  have h1 : IntKind.u8.wrap (n : Int) = (n : Int) := by
    simp only [IntKind.wrap, IntKind.bits, IntKind.signed]
    simp only [Bool.false_and, Bool.false_eq_true, if_false]
    omega
  unfold byteI
  rw [h1]
  simp [Nat.toUInt8]

theorem decLoop : ∀ (f : Nat) (k : Int) (w : Sl UInt8), k.natAbs < 10 ^ f → -9223372036854775808 ≤ k → k ≤ 9223372036854775807 → (w.getD []).length + f ≤ 1000 → ∃ q, loopT s0_spec_l01Dec (w, k) = some q ∧ q.getD [] = digs k.natAbs ++ w.getD [] := by
  intro f
  induction f with
  | zero =>
    intro k w h _ _ _
    have hk : k = 0 := by simp at h; omega
    subst hk
    exact ⟨w, loopT_end (by unfold s0_spec_l01Dec; simp), by simp [digs]⟩
  | succ f ih =>
    intro k w h h1 h2 h3
    by_cases hk : k = 0
    · subst hk
      exact ⟨w, loopT_end (by unfold s0_spec_l01Dec; simp), by simp [digs]⟩
    · have hp : 10 ^ (f + 1) = 10 * 10 ^ f := by rw [Nat.pow_succ, Nat.mul_comm]
      obtain ⟨m, hm⟩ : ∃ m, k.natAbs = m := ⟨_, rfl⟩
      have m0 : 0 < m := by omega
      have ds := digs_step m0
      have bs := byteI_small (n := 48 + m % 10) (by omega)
      have hb : (((48 + m % 10 : Nat) : Int)) = 48 + ((m % 10 : Nat) : Int) := by omega
      have ap : appO (some ([UInt8.ofNat (48 + m % 10)] : List UInt8)) (w.getD []) = some (appS (some [UInt8.ofNat (48 + m % 10)]) (w.getD [])) := appO_some (by simp; omega)
      have d0 : decide (k = 0) = false := decide_eq_false hk
      have go : ∀ k' : Int, k'.natAbs = m / 10 → -9223372036854775808 ≤ k' → k' ≤ 9223372036854775807 → s0_spec_l01Dec (w, k) = some (.inl (appS (some [UInt8.ofNat (48 + m % 10)]) (w.getD []), k')) → ∃ q, loopT s0_spec_l01Dec (w, k) = some q ∧ q.getD [] = digs k.natAbs ++ w.getD [] := by
        intro k' e1 e2 e3 e4
        rw [loopT_next e4]
        obtain ⟨q, q1, q2⟩ := ih k' (appS (some [UInt8.ofNat (48 + m % 10)]) (w.getD [])) (by omega) e2 e3 (by rw [appS_getD]; simp; omega)
        refine ⟨q, q1, ?_⟩
        rw [q2, appS_getD, e1, hm, ds]
        simp
      rcases Int.natAbs_eq k with e | e
      · rw [hm] at e
        have t1 : Int.tmod k 10 = ((m % 10 : Nat) : Int) := by rw [e]; exact (Int.ofNat_tmod m 10).symm
        have t2 : Int.tdiv k 10 = ((m / 10 : Nat) : Int) := by rw [e]; exact (Int.ofNat_tdiv m 10).symm
        refine go ((m / 10 : Nat) : Int) (by omega) (by omega) (by omega) ?_
        have c1 : decide (((m % 10 : Nat) : Int) < 0) = false := decide_eq_false (by omega)
        unfold s0_spec_l01Dec
        simp only [d0, Bool.not_false, cond_true, t1, t2, c1, cond_false]
        rw [wr_id (by omega) (by omega), wr_id (by omega) (by omega), ← hb, bs, ap]
        rfl
      · rw [hm] at e
        have t1 : Int.tmod k 10 = -((m % 10 : Nat) : Int) := by rw [e, Int.neg_tmod]; exact congrArg _ (Int.ofNat_tmod m 10).symm
        have t2 : Int.tdiv k 10 = -((m / 10 : Nat) : Int) := by rw [e, Int.neg_tdiv]; exact congrArg _ (Int.ofNat_tdiv m 10).symm
        refine go (-((m / 10 : Nat) : Int)) (by omega) (by omega) (by omega) ?_
        unfold s0_spec_l01Dec
        simp only [d0, Bool.not_false, cond_true, t1, t2]
        have wq : wr (-((m / 10 : Nat) : Int)) = -((m / 10 : Nat) : Int) := wr_id (by omega) (by omega)
        rw [wq]
        by_cases c : m % 10 = 0
        · have c1 : decide (-((m % 10 : Nat) : Int) < 0) = false := decide_eq_false (by omega)
          have w1 : wr (48 + -((m % 10 : Nat) : Int)) = ((48 + m % 10 : Nat) : Int) := by rw [wr_id (by omega) (by omega)]; omega
          rw [c1, cond_false, w1, bs, ap]
          rfl
        · have c1 : decide (-((m % 10 : Nat) : Int) < 0) = true := decide_eq_true (by omega)
          have w0 : wr (0 - -((m % 10 : Nat) : Int)) = ((m % 10 : Nat) : Int) := by rw [wr_id (by omega) (by omega)]; omega
          have w1 : wr (48 + ((m % 10 : Nat) : Int)) = ((48 + m % 10 : Nat) : Int) := by rw [wr_id (by omega) (by omega)]; omega
          rw [c1, cond_true, w0, w1, bs, ap]
          rfl

theorem strL_app (a b : List UInt8) : strL a ++ strL b = strL (a ++ b) := by
  unfold strL
  apply ByteArray.ext
  simp

theorem strL_size (a : List UInt8) : (strL a).size = a.length := by
  unfold strL
  rfl

theorem bl_strL (a : List UInt8) : bl (strL a) = a := by simp [bl, strL]

theorem strL_bl (s : ByteArray) : strL (bl s) = s := by
  unfold strL bl
  rfl

theorem catO_some {a b : ByteArray} (h : a.size + b.size ≤ 4294967296) : catO a b = some (a ++ b) := by
  unfold catO
  rw [if_pos (by omega)]

theorem digs_len : ∀ (f m : Nat), m < 10 ^ f → (digs m).length ≤ f
  | 0, m, h => by
    have : m = 0 := by simp at h; omega
    subst this
    simp [digs]
  | f + 1, m, h => by
    have hp : 10 ^ (f + 1) = 10 * 10 ^ f := by rw [Nat.pow_succ, Nat.mul_comm]
    by_cases m0 : m = 0
    · subst m0; simp [digs]
    · have := digs_len f (m / 10) (by omega)
      rw [digs_step (by omega)]
      simp
      omega

theorem digs_pos {m : Nat} (h : 0 < m) : 0 < (digs m).length := by
  rw [digs_step h]
  simp

theorem l01Dec_ok {n : Int} (h0 : -9223372036854775808 ≤ n) (h1 : n ≤ 9223372036854775807) : t_spec_l01Dec n = some (itS n) ∧ (itS n).size ≤ 20 := by
  obtain ⟨q, q1, q2⟩ := decLoop 19 n (some []) (by omega) h0 h1 (by simp)
  rw [Option.getD_some, List.append_nil] at q2
  have dl := digs_len 19 n.natAbs (by omega)
  unfold t_spec_l01Dec
  rw [q1, obind_sm, q2]
  by_cases c : n = 0
  · subst c
    refine ⟨?_, ?_⟩
    · have e : digs (Int.natAbs 0) = [] := rfl
      rw [e]
      have e2 : itS 0 = (⟨#[48]⟩ : ByteArray) := by
        unfold itS Lib.itoa
        rw [if_neg (by decide), Lib.decDigits, dif_pos (by decide)]
        rfl
      rw [e2]
      rfl
    · have e2 : itS 0 = (⟨#[48]⟩ : ByteArray) := by
        unfold itS Lib.itoa
        rw [if_neg (by decide), Lib.decDigits, dif_pos (by decide)]
        rfl
      rw [e2]
      decide
  · have p := digs_pos (m := n.natAbs) (by omega)
    have d1 : decide ((((digs n.natAbs).length : Nat) : Int) = 0) = false := decide_eq_false (by omega)
    have dd : digs n.natAbs = Lib.decDigits n.natAbs := by unfold digs; rw [if_neg (by omega)]
    rw [d1, cond_false]
    by_cases c2 : n < 0
    · have e2 : itS n = strL (45 :: digs n.natAbs) := by
        unfold itS Lib.itoa
        rw [if_pos c2, dd]
      have e3 : (⟨#[45]⟩ : ByteArray) = strL [45] := rfl
      rw [decide_eq_true c2, cond_true, e3, catO_some (by rw [strL_size, strL_size]; simp; omega), strL_app, obind_sm, e2]
      exact ⟨rfl, by rw [strL_size]; simp; omega⟩
    · have e2 : itS n = strL (digs n.natAbs) := by
        unfold itS Lib.itoa
        rw [if_neg c2, dd]
        have : n.toNat = n.natAbs := by omega
        rw [this]
      rw [decide_eq_false c2, cond_false, e2]
      exact ⟨rfl, by rw [strL_size]; omega⟩

theorem decimal_ok {n : Int} (h0 : -9223372036854775808 ≤ n) (h1 : n ≤ 9223372036854775807) : t_impl_Decimal n = some (itS n) := by
  unfold t_impl_Decimal fmtO
  rw [decide_eq_true h0, decide_eq_true h1]
  rfl

/-! ### The cost of a text in a lattice: the least cost of a path -/
inductive Wy (E : List Edg) (lab : Nat → ByteArray) : Nat → Nat → Int → Prop
  | start : Wy E lab 0 0 0
  | step {k u v : Nat} {c : Int} {i : Nat} {e : Edg} : Wy E lab k u c → E[i]? = some e → e.frm = (u : Int) → e.upto = (v : Int) → e.label = lab k → Wy E lab (k + 1) v (c + e.cost)

theorem set_upd {L : List Int} {v : Nat} {x y : Int} (h : L[v]? = some x) (i : Nat) : (L.set v y)[i]? = if i = v then some y else L[i]? := by
  by_cases e : i = v
  · subst e
    rw [if_pos rfl, List.getElem?_set_self (get_lt h)]
  · rw [if_neg e, List.getElem?_set_ne (fun k => e k.symm)]

/-- .. what the first j edges tell of the next row. -/
def Nxt (E : List Edg) (lab : Nat → ByteArray) (k j : Nat) (v : Nat) (c : Int) : Prop := ∃ i e u c', i < j ∧ E[i]? = some e ∧ e.frm = ((u : Nat) : Int) ∧ e.upto = (v : Int) ∧ e.label = lab k ∧ Wy E lab k u c' ∧ c = c' + e.cost

theorem Nxt.all {E : List Edg} {lab : Nat → ByteArray} {k v : Nat} {c : Int} : Nxt E lab k E.length v c ↔ Wy E lab (k + 1) v c := by
  constructor
  · rintro ⟨i, e, u, c', _, he, hf, hu, hl, hw, rfl⟩
    exact .step hw he hf hu hl
  · intro h
    cases h with
    | step hw he hf hu hl => exact ⟨_, _, _, _, get_lt he, he, hf, hu, hl, hw, rfl⟩

/-- A cell's cost is at most c. -/
def Cap (n : Nat) (L : List Int) (v k : Nat) (c : Int) : Prop := ∃ x, L[v * (n + 1) + k]? = some x ∧ 0 ≤ x ∧ x ≤ c

theorem Cap.mono {n : Nat} {L : List Int} {v k m : Nat} {c x y : Int} (h : Cap n L v k c) (hx : L[m]? = some x) (hy : x < 0 ∨ y < x) (h0 : 0 ≤ y) : Cap n (L.set m y) v k c := by
  obtain ⟨z, h1, h2, h3⟩ := h
  unfold Cap
  rw [set_upd hx]
  by_cases e : v * (n + 1) + k = m
  · rw [if_pos e]
    rw [e, hx] at h1
    cases h1
    exact ⟨y, rfl, h0, by omega⟩
  · rw [if_neg e]
    exact ⟨z, h1, h2, h3⟩

/-! ### Sets of symbols as numbers; sums -/
theorem wr_shift (x q : Int) : wr (x + 18446744073709551616 * q) = wr x := by
  simp only [wr, IntKind.wrap, IntKind.bits, IntKind.signed]
  first | omega | (simp; done)

theorem wr_mod (x : Int) : ∃ q, wr x = x + 18446744073709551616 * q := by
  have h : ∃ q, wr x = x - 18446744073709551616 * q := by
    simp only [wr, IntKind.wrap, IntKind.bits, IntKind.signed]
    by_cases h : x % 18446744073709551616 ≥ 9223372036854775808
    · exact ⟨x / 18446744073709551616 + 1, by simp [h]; omega⟩
    · exact ⟨x / 18446744073709551616, by simp [h]; omega⟩
  obtain ⟨q, hq⟩ := h
  exact ⟨-q, by rw [hq]; omega⟩

theorem wr_add_l (x y : Int) : wr (wr x + y) = wr (x + y) := by
  obtain ⟨q, h⟩ := wr_mod x
  rw [h, show x + 18446744073709551616 * q + y = x + y + 18446744073709551616 * q by omega, wr_shift]

def upd (base : Nat → Int) (S : Nat) (x : Int) (v : Nat) : Int := if v = S then x else base v

theorem upd_self (base : Nat → Int) (S : Nat) (x : Int) : upd base S x S = x := if_pos rfl

theorem upd_ne {base : Nat → Int} {S v : Nat} (x : Int) (h : v ≠ S) : upd base S x v = base v := if_neg h

structure PI (l : Sl Symbol) (n : Nat) (bx : Nat → Box) (c : Nat → Int) (p : Parser) : Prop where
  list : p.list = l
  boxes : ∀ v, v < n → (p.boxes.getD [])[v]? = some (bx v)
  best : (p.best.getD []).length = n
  clen : (p.count.getD []).length = n
  count : ∀ v, v < n → (p.count.getD [])[v]? = some (c v)

structure CI (l : Sl Symbol) (n : Nat) (bx : Nat → Box) (c : Nat → Int) (p : Chart21) : Prop where
  list : p.list = l
  len : (p.cells.getD []).length = n
  cells : ∀ v, v < n → ∃ x, (p.cells.getD [])[v]? = some x ∧ x.box = bx v ∧ x.ways = c v

theorem setS_look {A : Type} {s : Sl A} {v : Nat} {x y : A} (h : (s.getD [])[v]? = some x) (i : Nat) : ((setS s (v : Int) y).getD [])[i]? = if i = v then some y else (s.getD [])[i]? := by
  cases s with
  | none => simp at h
  | some l =>
    show (l.set ((v : Int).toNat) y)[i]? = if i = v then some y else l[i]?
    rw [Int.toNat_natCast]
    have h' : l[v]? = some x := h
    by_cases e : i = v
    · subst e
      rw [if_pos rfl, List.getElem?_set_self (get_lt h')]
    · rw [if_neg e, List.getElem?_set_ne (fun k => e k.symm)]

theorem PI.add {l : Sl Symbol} {n : Nat} {bx : Nat → Box} {base : Nat → Int} {S : Nat} {X Y : Int} {p : Parser} (h : PI l n bx (upd base S (wr X)) p) (hS : S < n) (q : Sl Choice) (hq : (q.getD []).length = n) : PI l n bx (upd base S (wr (X + Y))) ⟨p.list, p.boxes, q, setS p.count (S : Int) (wr (wr X + Y))⟩ := by
  have hs := h.count S hS
  refine ⟨h.list, h.boxes, hq, by show ((setS p.count (S : Int) _).getD []).length = n; rw [setS_len]; exact h.clen, fun v hv => ?_⟩
  show ((setS p.count (S : Int) _).getD [])[v]? = _
  rw [setS_look hs]
  by_cases e : v = S
  · subst e
    rw [if_pos rfl, upd_self, wr_add_l]
  · rw [if_neg e, upd_ne _ e, h.count v hv, upd_ne _ e]

/-! ### One way, the reference's side; all divisions of a set, on both sides -/
theorem CI.add {l : Sl Symbol} {n : Nat} {bx : Nat → Box} {base : Nat → Int} {S : Nat} {X Y Z : Int} {p : Chart21} (h : CI l n bx (upd base S (wr X)) p) (hS : S < n) (y : Cell21) (hb : y.box = bx S) (hw : y.ways = wr (wr X + Y)) (hZ : wr (X + Y) = wr (X + Z)) : CI l n bx (upd base S (wr (X + Z))) ⟨p.list, setS p.cells (S : Int) y⟩ := by
  obtain ⟨x, hx, _⟩ := h.cells S hS
  refine ⟨h.list, by show ((setS p.cells (S : Int) _).getD []).length = n; rw [setS_len]; exact h.len, fun v hv => ?_⟩
  show ∃ x, ((setS p.cells (S : Int) _).getD [])[v]? = some x ∧ _
  rw [setS_look hx]
  by_cases e : v = S
  · subst e
    rw [if_pos rfl]
    exact ⟨y, rfl, hb, by rw [upd_self, hw, wr_add_l, hZ]⟩
  · rw [if_neg e]
    obtain ⟨z, h1, h2, h3⟩ := h.cells v hv
    exact ⟨z, h1, h2, by rw [h3, upd_ne _ e, upd_ne _ e]⟩

/-! ### The boxes of sets; one set whole -/
def shrQ (S i : Nat) : Int := Int.fdiv (S : Int) (2 ^ (min (i : Int).toNat 64))

def outQ (S i : Nat) : Bool := decide (andI (shrQ S i) 1 = 0)

/-! ### The best way (ParseSymbols) -/
structure Way where
  kind : Int
  sign : Int
  a : Nat
  b : Nat
  cost : Int
  ways : Int
  deriving DecidableEq

abbrev posLt (x y : Way) : Prop := x.kind < y.kind ∨ (x.kind = y.kind ∧ (x.sign < y.sign ∨ (x.sign = y.sign ∧ x.a < y.a)))

abbrev lexLt (x y : Way) : Prop := x.cost < y.cost ∨ (x.cost = y.cost ∧ posLt x y)

def stepI (o : Option Way) (t : Way) : Option Way := if t.ways = 0 then o else match o with
  | none => some t
  | some x => if lexLt t x then some t else some x

def chOf (t : Way) : Choice := ⟨t.kind, t.sign, (t.a : Int), (t.b : Int), t.cost⟩

structure PB (l : Sl Symbol) (n : Nat) (bx : Nat → Box) (base : Nat → Int) (bc : Nat → Choice) (S : Nat) (X : Int) (o : Option Way) (p : Parser) : Prop where
  pi : PI l n bx (upd base S (wr X)) p
  bst : ∀ v, v < n → v ≠ S → (p.best.getD [])[v]? = some (bc v)
  own : ∀ t, o = some t → (p.best.getD [])[S]? = some (chOf t)
  zero : o = none ↔ X = 0
  pos : 0 ≤ X

theorem PB.take {l : Sl Symbol} {n : Nat} {bx : Nat → Box} {base : Nat → Int} {bc : Nat → Choice} {S : Nat} {X : Int} {o : Option Way} {p : Parser} (h : PB l n bx base bc S X o p) (hS : S < n) {t : Way} (hp : 0 < t.ways) (hs : stepI o t = some t) : PB l n bx base bc S (X + t.ways) (stepI o t) ⟨p.list, p.boxes, setS p.best (S : Int) (chOf t), setS p.count (S : Int) (wr (wr X + t.ways))⟩ := by
  obtain ⟨y, hy⟩ : ∃ y, (p.best.getD [])[S]? = some y := ⟨_, List.getElem?_eq_getElem (by have := h.pi.best; omega)⟩
  have pos := h.pos
  refine ⟨h.pi.add hS _ (by rw [setS_len]; exact h.pi.best), fun v hv hn => ?_, fun u hu => ?_, ?_, by omega⟩
  · show ((setS p.best (S : Int) _).getD [])[v]? = _
    rw [setS_look hy, if_neg hn]
    exact h.bst v hv hn
  · show ((setS p.best (S : Int) _).getD [])[S]? = _
    rw [hs] at hu
    cases hu
    rw [setS_look hy, if_pos rfl]
  · rw [hs]
    exact ⟨fun e => (by cases e), fun e => by omega⟩

/-! ### One set whole, with its best way, on both sides -/
def lastIx (S : Nat) : Nat → Nat
  | 0 => 0
  | i + 1 => bif outQ S i then lastIx S i else i

def Lnk (N : Nat) (base : Nat → Int) (v : Nat) (x y : Choice) : Prop :=
  (v &&& (v - 1) = 0 ∧ y = ⟨0, (lastIx v N : Int), 0, 0, 0⟩) ∨ (v &&& (v - 1) ≠ 0 ∧ ∃ t : Way, x = chOf t ∧ y = chOf t ∧ t.kind ≠ 0 ∧ 0 < t.a ∧ t.a < v ∧ t.b < v ∧ base t.a ≠ 0 ∧ (t.b = 0 ∨ base t.b ≠ 0) ∧ t.a + t.b ≤ v)

theorem Lnk.mono {N v S : Nat} {base : Nat → Int} {x y : Choice} {u : Int} (h : Lnk N base v x y) (hv : v ≤ S) (hu : base S = 0) : Lnk N (upd base S u) v x y := by
  rcases h with h | ⟨h1, t, h2, h3, h4, h5, h6, h7, h8, h9, h10⟩
  · exact .inl h
  · refine .inr ⟨h1, t, h2, h3, h4, h5, h6, h7, ?_, ?_, h10⟩
    · rw [upd_ne _ (by omega)]
      exact h8
    · rw [upd_ne _ (by omega)]
      exact h9

/-! ### The sentence with the least cost, by itself -/
/-- Words that may stand at a place, each with its own cost. -/
abbrev CandL := List (ByteArray × Int)

/-- Words one behind the other, with their cost. -/
inductive SPth (pc : ByteArray → ByteArray → Int) : List CandL → ByteArray → List ByteArray → Int → Prop
  | nil {a : ByteArray} : SPth pc [] a [] 0
  | cons {C : CandL} {Cs : List CandL} {a w : ByteArray} {c r : Int} {ws : List ByteArray} (hw : (w, c) ∈ C) (h : SPth pc Cs w ws r) : SPth pc (C :: Cs) a (w :: ws) (pc a w + (c + r))

theorem SPth.len {pc : ByteArray → ByteArray → Int} {Cs : List CandL} {a : ByteArray} {ws : List ByteArray} {c : Int} (h : SPth pc Cs a ws c) : ws.length = Cs.length := by
  induction h with
  | nil => rfl
  | cons hw h ih => simp [ih]

/-! ### Texts of symbols and of models, plain -/
def symLineB (s : Symbol) : List UInt8 := bl s.label ++ [32] ++ bl (itS s.box.x1) ++ [32] ++ bl (itS s.box.y1) ++ [32] ++ bl (itS s.box.x2) ++ [32] ++ bl (itS s.box.y2) ++ [10]

def symTextB (l : List Symbol) : List UInt8 := l.flatMap symLineB

/-- What the program's SymbolsText gives. -/
def t_impl_SymbolsText (list_ : Sl Symbol) : Option ByteArray := bif decide ((list_.getD []).length ≤ 4294967296) then (bif okSys (list_.getD []) then some (strL (symTextB (list_.getD []))) else some ⟨#[]⟩) else none

theorem catL {a b : List UInt8} (h : a.length + b.length ≤ 4294967296) : catO (strL a) (strL b) = some (strL (a ++ b)) := by
  rw [catO_some (by rw [strL_size, strL_size]; exact h), strL_app]

theorem itL {n : Int} (h0 : -9223372036854775808 ≤ n) (h1 : n ≤ 9223372036854775807) : ∃ D, itS n = strL D ∧ bl (itS n) = D ∧ D.length ≤ 20 ∧ t_spec_l01Dec n = some (strL D) := by
  obtain ⟨e1, e2⟩ := l01Dec_ok h0 h1
  refine ⟨bl (itS n), (strL_bl _).symm, rfl, ?_, by rw [strL_bl]; exact e1⟩
  have := strL_size (bl (itS n))
  rw [strL_bl] at this
  omega

theorem bl_length (s : ByteArray) : (bl s).length = s.size := by
  have := strL_size (bl s)
  rw [strL_bl] at this
  exact this.symm

theorem okSys_mem {l : List Symbol} (h : okSys l = true) : ∀ s ∈ l, okSym s = true := by
  intro s hs
  unfold okSys at h
  cases e : firstL fSy l 0 with
  | some r =>
    rw [e] at h
    simp only at h
    rw [fSy_some e] at h
    cases h
  | none =>
    cases c : okSym s with
    | true => rfl
    | false =>
      have key : ∀ (l : List Symbol) (k : Nat), s ∈ l → firstL fSy l k ≠ none := by
        intro l
        induction l with
        | nil => intro k h; cases h
        | cons a l ih =>
          intro k h
          unfold firstL
          cases c2 : okSym a with
          | true =>
            have hf : fSy k a = none := by unfold fSy; rw [c2]; rfl
            rw [hf]
            rcases List.mem_cons.1 h with rfl | h
            · rw [c] at c2; cases c2
            · exact ih (k + 1) h
          | false =>
            have hf : fSy k a = some false := by unfold fSy; rw [c2]; rfl
            rw [hf]
            simp
      exact absurd e (key l 0 hs)

theorem okSym_v {s : Symbol} (h : okSym s = true) : s.label.size = 1 ∧ (0 ≤ s.box.x1 ∧ s.box.x1 ≤ 4095) ∧ (0 ≤ s.box.y1 ∧ s.box.y1 ≤ 4095) ∧ (0 ≤ s.box.x2 ∧ s.box.x2 ≤ 4095) ∧ (0 ≤ s.box.y2 ∧ s.box.y2 ≤ 4095) := by
  unfold okSym isLabel validBox within at h
  simp only [Bool.and_eq_true, decide_eq_true_eq] at h
  omega

theorem symLine_len {s : Symbol} (h : okSym s = true) : (symLineB s).length ≤ 86 := by
  obtain ⟨h1, h2, h3, h4, h5⟩ := okSym_v h
  obtain ⟨D1, _, e1, l1, _⟩ := itL (n := s.box.x1) (by omega) (by omega)
  obtain ⟨D2, _, e2, l2, _⟩ := itL (n := s.box.y1) (by omega) (by omega)
  obtain ⟨D3, _, e3, l3, _⟩ := itL (n := s.box.x2) (by omega) (by omega)
  obtain ⟨D4, _, e4, l4, _⟩ := itL (n := s.box.y2) (by omega) (by omega)
  have := bl_length s.label
  unfold symLineB
  rw [e1, e2, e3, e4]
  simp only [List.length_append, List.length_cons, List.length_nil]
  omega

theorem flat_len {A : Type} {f : A → List UInt8} {c : Nat} : ∀ {l : List A}, (∀ a ∈ l, (f a).length ≤ c) → (l.flatMap f).length ≤ c * l.length
  | [], _ => by simp
  | a :: l, h => by
    have h1 := h a (List.mem_cons_self ..)
    have h2 := flat_len (l := l) (fun x hx => h x (List.mem_cons_of_mem _ hx))
    rw [List.flatMap_cons, List.length_append, List.length_cons, Nat.mul_succ]
    omega

theorem flat_take {A : Type} (f : A → List UInt8) {l : List A} {k : Nat} {a : A} (h : l[k]? = some a) : (l.take (k + 1)).flatMap f = (l.take k).flatMap f ++ f a := by
  rw [List.take_add_one, h, List.flatMap_append]
  simp

theorem sp32 : (⟨#[32]⟩ : ByteArray) = strL [32] := (rfl)

theorem nl10 : (⟨#[10]⟩ : ByteArray) = strL [10] := (rfl)

theorem symLine_step {l : Sl Symbol} {k : Nat} {s : Symbol} {A L D1 D2 D3 D4 : List UInt8} (hk : k < (l.getD []).length) (hl : (l.getD []).length ≤ 8) (hs : (l.getD [])[k]? = some s) (f1 : t_spec_l01Dec s.box.x1 = some (strL D1)) (f2 : t_spec_l01Dec s.box.y1 = some (strL D2)) (f3 : t_spec_l01Dec s.box.x2 = some (strL D3)) (f4 : t_spec_l01Dec s.box.y2 = some (strL D4)) (el : s.label = strL L)
   (h0 : A.length ≤ 1000) (h1 : L.length ≤ 1) (l1 : D1.length ≤ 20) (l2 : D2.length ≤ 20) (l3 : D3.length ≤ 20) (l4 : D4.length ≤ 20) :
   s0_spec_l20Text l (strL A, (k : Int)) = some (.inl (strL (A ++ (L ++ [32] ++ D1 ++ [32] ++ D2 ++ [32] ++ D3 ++ [32] ++ D4 ++ [10])), ((k + 1 : Nat) : Int))) := by
  have c : (k : Int) < (((l.getD []).length : Nat) : Int) := by omega
  unfold s0_spec_l20Text
  simp only [c, decide_true, cond_true]
  rw [getI_nat hs, obind_sm, obind_sm, el]
  rw [f1, f2, f3, f4]
  rw [sp32, nl10]
  rw [catL (by simp; omega), obind_sm, obind_sm, catL (by simp; omega), obind_sm, catL (by simp; omega), obind_sm, obind_sm, catL (by simp; omega), obind_sm, catL (by simp; omega), obind_sm, obind_sm, catL (by simp; omega), obind_sm, catL (by simp; omega), obind_sm, obind_sm, catL (by simp; omega), obind_sm, catL (by simp; omega), obind_sm, catL (by simp; omega), obind_sm, wr_succ hk (by omega)]

theorem l20Text_ok {l : Sl Symbol} (h : okSys (l.getD []) = true) : t_spec_l20Text l = some (strL (symTextB (l.getD []))) := by
  have hm := okSys_mem h
  have hl := okSys_len h
  have lp := loopT_at (step := s0_spec_l20Text l) (l.getD []).length (fun k => (strL (symTextB ((l.getD []).take k)), (k : Int))) (strL (symTextB (l.getD [])))
    (fun k hk => by
      obtain ⟨s, hs⟩ : ∃ s, (l.getD [])[k]? = some s := ⟨_, List.getElem?_eq_getElem hk⟩
      have ho := hm s (List.mem_of_getElem? hs)
      have c : (k : Int) < (((l.getD []).length : Nat) : Int) := by omega
      obtain ⟨h1, h2, h3, h4, h5⟩ := okSym_v ho
      obtain ⟨D1, _, e1, l1, f1⟩ := itL (n := s.box.x1) (by omega) (by omega)
      obtain ⟨D2, _, e2, l2, f2⟩ := itL (n := s.box.y1) (by omega) (by omega)
      obtain ⟨D3, _, e3, l3, f3⟩ := itL (n := s.box.x2) (by omega) (by omega)
      obtain ⟨D4, _, e4, l4, f4⟩ := itL (n := s.box.y2) (by omega) (by omega)
      have hb := bl_length s.label
      have acc : (symTextB ((l.getD []).take k)).length ≤ 86 * 8 := by
        have h6 := flat_len (f := symLineB) (c := 86) (l := (l.getD []).take k) (fun a ha => symLine_len (hm a (List.mem_of_mem_take ha)))
        have h7 : ((l.getD []).take k).length ≤ 8 := by rw [List.length_take]; omega
        have h8 : 86 * ((l.getD []).take k).length ≤ 86 * 8 := Nat.mul_le_mul_left _ h7
        unfold symTextB
        omega
      have el : s.label = strL (bl s.label) := (strL_bl _).symm
      obtain ⟨L, hL⟩ : ∃ L, L = bl s.label := ⟨_, rfl⟩
      have en : symTextB ((l.getD []).take (k + 1)) = symTextB ((l.getD []).take k) ++ (L ++ [32] ++ D1 ++ [32] ++ D2 ++ [32] ++ D3 ++ [32] ++ D4 ++ [10]) := by
        unfold symTextB
        rw [flat_take _ hs]
        unfold symLineB
        rw [e1, e2, e3, e4, ← hL]
      rw [en]
      obtain ⟨acc', hacc⟩ : ∃ a, a = symTextB ((l.getD []).take k) := ⟨_, rfl⟩
      rw [← hacc] at acc ⊢
      rw [← hL] at el hb
      exact symLine_step hk hl hs f1 f2 f3 f4 el (by omega) (by omega) l1 l2 l3 l4)
    (by
      unfold s0_spec_l20Text
      simp only [Int.lt_irrefl, decide_false, cond_false, List.take_length]) 0 (by omega)
  have lp' : loopT (s0_spec_l20Text l) ((⟨#[]⟩ : ByteArray), 0) = some (strL (symTextB (l.getD []))) := lp
  unfold t_spec_l20Text
  rw [lp', obind_sm]

theorem symText_both {l : Sl Symbol} (hl : (l.getD []).length ≤ 4294967296) : t_spec_SymbolsText l = t_impl_SymbolsText l := by
  unfold t_spec_SymbolsText t_impl_SymbolsText
  rw [l20Ok_ok l hl, obind_sm, decide_eq_true hl, cond_true]
  cases h : okSys (l.getD []) with
  | false => rfl
  | true => rw [Bool.not_true, cond_false, cond_true, l20Text_ok h, obind_sm]

section
open Go.Shelf Go.RowKit
/-! ### strings.Builder: the library's contracts at this program -/
def layBWrite_ren : Go.Shelf.Ren := ⟨fun | 166 => 30 | 240 => 59 | 276 => 82 | n => n, fun | 70 => 53 | 9 => 9 | 3 => 3 | 75 => 58 | 0 => 0 | 72 => 56 | 37 => 54 | 4 => 4 | 164 => 115 | 5 => 5 | 80 => 64 | 20 => 20 | n => n, fun | n => n⟩
theorem layBWrite : Go.Proofs.Lays.n166 Tryd.prog layBWrite_ren := {
  mixed := by kernel_rfl
  f166 := Tryd.func30.trans (congrArg some (by kernel_rfl))
  f240 := Tryd.func59.trans (congrArg some (by kernel_rfl))
  f276 := Tryd.func82.trans (congrArg some (by kernel_rfl))
  t0 := Tryd.underlying0
  a0 := Tryd.isAgg0
  z0 := Tryd.sizeOf0
  v0 := Tryd.zeroValue0
  t3 := Tryd.underlying3
  a3 := Tryd.isAgg3
  z3 := Tryd.sizeOf3
  v3 := Tryd.zeroValue3
  t4 := Tryd.underlying4
  a4 := Tryd.isAgg4
  z4 := Tryd.sizeOf4
  v4 := Tryd.zeroValue4
  t9 := Tryd.underlying9
  a9 := Tryd.isAgg9
  z9 := Tryd.sizeOf9
  v9 := Tryd.zeroValue9
  t20 := Tryd.underlying20
  a20 := Tryd.isAgg20
  z20 := Tryd.sizeOf20
  v20 := Tryd.zeroValue20
  t37 := Tryd.underlying54
  a37 := Tryd.isAgg54
  z37 := Tryd.sizeOf54
  v37 := Tryd.zeroValue54
  t70 := Tryd.underlying53
  a70 := Tryd.isAgg53
  z70 := Tryd.sizeOf53
  v70 := Tryd.zeroValue53
  t72 := Tryd.underlying56
  a72 := Tryd.isAgg56
  z72 := Tryd.sizeOf56
  v72 := Tryd.zeroValue56
  t75 := Tryd.underlying58
  a75 := Tryd.isAgg58
  z75 := Tryd.sizeOf58
  v75 := Tryd.zeroValue58
  t164 := Tryd.underlying115
  a164 := Tryd.isAgg115
  z164 := Tryd.sizeOf115
  v164 := Tryd.zeroValue115 }
theorem extraBW : Builder.Extra Tryd.prog layBWrite_ren where
  sizeBuilder := by kernel_rfl
  liesBuilder := by kernel_rfl
  t5 := Tryd.underlying5
  a5 := Tryd.isAgg5
  z5 := Tryd.sizeOf5
  v5 := Tryd.zeroValue5
  infoByte := by kernel_rfl
  cellsByte := by kernel_rfl
  sizeByte := by kernel_rfl
  neB5 := by decide
theorem extraBS : Builder.Extra Tryd.prog layBStr_ren where
  sizeBuilder := by kernel_rfl
  liesBuilder := by kernel_rfl
  t5 := Tryd.underlying5
  a5 := Tryd.isAgg5
  z5 := Tryd.sizeOf5
  v5 := Tryd.zeroValue5
  infoByte := by kernel_rfl
  cellsByte := by kernel_rfl
  sizeByte := by kernel_rfl
  neB5 := by decide
/-- A builder that holds these bytes. -/
abbrev BuildB (B b : Nat) (l : List UInt8) (w : World) : Prop := Lib.IsBuilderF 56 5 B b (Lib.byteCells l) w
theorem bwriteB (B b : Nat) (l : List UInt8) (s : ByteArray) (w : World) (h : BuildB B b l w) (hlen : l.length + s.size ≤ 1000000) (hB : B ≤ w.heap.size) :
    Calls Tryd.prog 30 #[.pointer (some ⟨b, 0, none⟩), .string s] w fun e w' => e = .returned (.tuple #[.int .i64 s.size, .nilIface]) ∧ BuildB B b (l ++ bl s) w' ∧ Below B w w' :=
  (Any.Builder_WriteString_f layBWrite extraBW B b (Lib.byteCells l) s w h (by rw [Lib.byteCells_length]; omega) hB).mono fun e w' ⟨h1, h2, h3⟩ => ⟨h1, by
    rw [Lib.strCells_eq, ← Lib.byteCells_append] at h2
    exact Or.inr h2, h3⟩
theorem bstrB (B b : Nat) (l : List UInt8) (w : World) (h : BuildB B b l w) (hB : B ≤ w.heap.size) :
    Calls Tryd.prog 32 #[.pointer (some ⟨b, 0, none⟩)] w fun e w' => e = .returned (.string (strL l)) ∧ Below B w w' :=
  (Any.Builder_String_any_f layBStr extraBS B b l w h hB).mono fun e w' ⟨h1, _, h3⟩ => ⟨h1, h3⟩
theorem keepCellB {B A o : Nat} {w w' : World} {v : Value} (hb : Below B w w') (hA : A < B) (h : w.cell? ⟨A, o, none⟩ = some v) : w'.cell? ⟨A, o, none⟩ = some v := by
  rw [World.cell?_of_block (w := w) (a := ⟨A, o, none⟩) (hb.block A hA)]
  exact h
theorem freshB {B : Nat} {w : World} (hB : B ≤ w.heap.size) : BuildB B w.heap.size [] (w.alloc (.cells #[.pointer none, .slice none 0 0] 56)) :=
  .inl ⟨hB, .slice none 0 0, heap_alloc_new w _, World.ownsRowF_nil _ _ _ _, by simp [Value.ownBlock]⟩
/-- What an engine's contract says, as the kit says it. -/
theorem callsB {P : Program} {g : Nat} {vs : Array Value} {w : World} {R : Ending → World → Prop} (hb : HasBody P g) (h : CallF P g vs w R) : Calls P g vs w R := by
  unfold CallF at h
  rw [callFunc_body hb] at h
  exact h
theorem glob_belowB {P : Program} {w w' : World} (h : Glob P w) (hb : Below w.heap.size w w') : Glob P w' := fun t ht g hg => tabIs_block hg (h t ht g hg) fun hlt => hb.block g hlt
theorem repN_svB {X : Nat → Prop} {B : Nat} {w : World} {s : ByteArray} {v : Value} (h : RepN X B w (sv s) v) : v = .string s := by
  obtain ⟨ρ0, h1, h2⟩ := h
  obtain ⟨h3, h4⟩ := h2 0
  obtain ⟨_, h5⟩ := h4 (mat depth (sv s) 0).2 (fun i ob e => by rw [Nat.zero_add]; exact e)
  have e : (mat depth (sv s) 0).1 = sv s := rfl
  rw [e] at h5
  cases h5
  rfl
theorem repN_bvB {X : Nat → Prop} {B : Nat} {w : World} {b : Bool} {v : Value} (h : RepN X B w (bv b) v) : v = .bool b := by
  obtain ⟨ρ0, h1, h2⟩ := h
  obtain ⟨h3, h4⟩ := h2 0
  obtain ⟨_, h5⟩ := h4 (mat depth (bv b) 0).2 (fun i ob e => by rw [Nat.zero_add]; exact e)
  have e : (mat depth (bv b) 0).1 = bv b := rfl
  rw [e] at h5
  cases h5
  rfl
theorem decB {n : Int} (h0 : 0 ≤ n) (h1 : n ≤ 1000000) {w : World} (hg : Glob Tryd.prog w) :
    Calls Tryd.prog 31 #[.int .i64 n] w fun e w' => e = .returned (.string (itS n)) ∧ Below w.heap.size w w' := by
  have e0 : (C1 (fun c : ByteArray => enc c) t_impl_Decimal) [iv n] = some (sv (itS n)) := by
    have : (C1 (fun c : ByteArray => enc c) t_impl_Decimal) [enc n] = obind (t_impl_Decimal n) fun c => some (enc c) := R1_enc _ _
    rw [show (iv n : AV) = enc n from rfl, this, decimal_ok (by omega) (by omega)]
    rfl
  have hp := tt_impl_Decimal [iv n] _ e0 (fun _ => False) w #[.int .i64 n] hg rfl (fun i d v h2 h3 => by
    match i, h2, h3 with
    | 0, h2, h3 => cases h2; cases h3; exact .sc rfl)
  refine (callsB hb_impl_Decimal hp).mono fun e w' ⟨v, e1, e2, e3⟩ => ⟨?_, e2.toBelow⟩
  rw [e1, repN_svB e3]
end

section
open Go.Shelf Go.RowKit
/-- What stands while a line is made, beside the element's own cells. -/
structure KeepB (w : World) (t o b : Nat) (W : World) : Prop where
  g0 : Glob Tryd.prog w
  ne : o ≠ b
  nt : t ≠ 5
  blk : ∃ c fz, W.heap[o]? = some (.cells c t fz)
  blw : Below w.heap.size w W
theorem KeepB.lt {w : World} {t o b : Nat} {W : World} (h : KeepB w t o b W) : o < W.heap.size := by
  obtain ⟨c, fz, h⟩ := h.blk
  exact (Array.getElem?_eq_some_iff.1 h).1
theorem KeepB.glob {w : World} {t o b : Nat} {W : World} (h : KeepB w t o b W) : Glob Tryd.prog W := glob_belowB h.g0 h.blw
theorem KeepB.keep {w : World} {t o b : Nat} {W W' : World} (hd : Below W.heap.size W W') (h : KeepB w t o b W) : KeepB w t o b W' := by
  obtain ⟨c, fz, hc⟩ := h.blk
  exact ⟨h.g0, h.ne, h.nt, ⟨c, fz, by rw [hd.block o h.lt]; exact hc⟩, h.blw.trans (hd.mono h.blw.size)⟩
theorem KeepB.drew {w : World} {t o b : Nat} {W : World} (h : KeepB w t o b W) : KeepB w t o b W.drew := h.keep (Below.refl _ _).drew
theorem KeepB.others {w : World} {t o b : Nat} {W W' : World} (hw : Below w.heap.size W W') (ho : Lib.OthersKept 5 (some b) W W') (h : KeepB w t o b W) : W'.heap[o]? = W.heap[o]? ∧ KeepB w t o b W' := by
  obtain ⟨c, fz, hc⟩ := h.blk
  have e := ho o _ hc (fun e => h.ne (Option.some.inj e)) (fun c' fz' e => by
    have e2 := congrArg (fun x => match x with | Obj.cells _ t _ => t | _ => 0) e
    exact h.nt e2)
  exact ⟨by rw [e, hc], h.g0, h.ne, h.nt, ⟨c, fz, e⟩, h.blw.trans hw⟩
theorem keepB_start {w wr : World} {t b : Nat} {cs : Array Value} (hb : Below w.heap.size w wr) (hg : Glob Tryd.prog w) (hlt : b < wr.heap.size) (nt : t ≠ 5) : KeepB w t wr.heap.size b (wr.alloc (.cells cs t)) :=
  ⟨hg, by omega, nt, ⟨cs, _, heap_alloc_new wr _⟩, hb.alloc hb.size _⟩
theorem bwriteK (B b : Nat) (l : List UInt8) (s : ByteArray) (w : World) (h : BuildB B b l w) (hlen : l.length + s.size ≤ 1000000) (hB : B ≤ w.heap.size) :
    Calls Tryd.prog 30 #[.pointer (some ⟨b, 0, none⟩), .string s] w fun e w' => e = .returned (.tuple #[.int .i64 s.size, .nilIface]) ∧ BuildB B b (l ++ bl s) w' ∧ Below B w w' ∧ Lib.OthersKept 5 (some b) w w' :=
  (Any.Builder_WriteString_k layBWrite extraBW B b (Lib.byteCells l) s w h (by rw [Lib.byteCells_length]; omega) hB).mono fun e w' ⟨h1, h2, h3, h4⟩ => ⟨h1, by
    rw [Lib.strCells_eq, ← Lib.byteCells_append] at h2
    exact Or.inr h2, h3, h4⟩
theorem build_lt {B b : Nat} {l : List UInt8} {w : World} (h : BuildB B b l w) : b < w.heap.size := by
  rcases h with ⟨_, v, h, _⟩ | ⟨_, v, h, _⟩
  · exact (Array.getElem?_eq_some_iff.1 h).1
  · exact (Array.getElem?_eq_some_iff.1 h).1
theorem build4 {B b : Nat} {l : List UInt8} {W0 W1 W2 W3 W4 : World} (h4 : Below W3.heap.size W3 W4) (h3 : Below W2.heap.size W2 W3) (h2 : Below W1.heap.size W1 W2) (h1 : Below W0.drew.heap.size W0.drew W1) (h : BuildB B b l W0) : BuildB B b l W4 :=
  (((Lib.IsBuilderF.below (Lib.IsBuilderF.below h (Below.refl _ _).drew) h1).below h2).below h3).below h4
abbrev SymS (w : World) (o b : Nat) (s : Symbol) (W : World) : Prop :=
  W.cell? ⟨o, 0, none⟩ = some (.string s.label) ∧ W.cell? ⟨o, 1, none⟩ = some (.int .i64 s.box.x1) ∧ W.cell? ⟨o, 2, none⟩ = some (.int .i64 s.box.y1) ∧ W.cell? ⟨o, 3, none⟩ = some (.int .i64 s.box.x2) ∧ W.cell? ⟨o, 4, none⟩ = some (.int .i64 s.box.y2) ∧ KeepB w 74 o b W
theorem symS_keep {w : World} {o b : Nat} {s : Symbol} {W W' : World} (hd : Below W.heap.size W W') (h : SymS w o b s W) : SymS w o b s W' := by
  obtain ⟨g0, g1, g2, g3, g4, g5⟩ := h
  exact ⟨keepCellB hd g5.lt g0, keepCellB hd g5.lt g1, keepCellB hd g5.lt g2, keepCellB hd g5.lt g3, keepCellB hd g5.lt g4, g5.keep hd⟩
theorem symS_others {w : World} {o b : Nat} {s : Symbol} {W W' : World} (ho : Lib.OthersKept 5 (some b) W W') (hw : Below w.heap.size W W') (h : SymS w o b s W) : SymS w o b s W' := by
  obtain ⟨g0, g1, g2, g3, g4, g5⟩ := h
  obtain ⟨e, g6⟩ := g5.others hw ho
  have hc : ∀ j, W'.cell? ⟨o, j, none⟩ = W.cell? ⟨o, j, none⟩ := fun j => World.cell?_of_block (w := W) (a := ⟨o, j, none⟩) e
  exact ⟨by rw [hc]; exact g0, by rw [hc]; exact g1, by rw [hc]; exact g2, by rw [hc]; exact g3, by rw [hc]; exact g4, g6⟩
theorem symS_glob {w : World} {o b : Nat} {s : Symbol} {W : World} (h : SymS w o b s W) : Glob Tryd.prog W := h.2.2.2.2.2.glob
theorem symS_size {w : World} {o b : Nat} {s : Symbol} {W : World} (h : SymS w o b s W) : w.heap.size ≤ W.heap.size := h.2.2.2.2.2.blw.size
theorem symS_below {w : World} {o b : Nat} {s : Symbol} {W : World} (h : SymS w o b s W) : Below w.heap.size w W := h.2.2.2.2.2.blw
theorem symLine_bl (s : Symbol) : bl (s.label ++ ⟨#[32]⟩ ++ itS s.box.x1 ++ ⟨#[32]⟩ ++ itS s.box.y1 ++ ⟨#[32]⟩ ++ itS s.box.x2 ++ ⟨#[32]⟩ ++ itS s.box.y2 ++ ⟨#[10]⟩) = symLineB s := by
  have ha : ∀ a b : ByteArray, bl (a ++ b) = bl a ++ bl b := fun a b => by
    rw [← strL_bl a, ← strL_bl b, strL_app, bl_strL, bl_strL, bl_strL]
  have h1 : bl (⟨#[32]⟩ : ByteArray) = [32] := rfl
  have h2 : bl (⟨#[10]⟩ : ByteArray) = [10] := rfl
  unfold symLineB
  simp only [ha, h1, h2]
set_option maxHeartbeats 4000000 in
theorem symWalkB (l : List Symbol) (hok : okSys l = true) (base : Option Addr) (cap : Nat) (w : World) (hg : Glob Tryd.prog w)
    (hcells : ∀ (k : Nat) s, l[k]? = some s → ∃ A off, base = some ⟨A, off, none⟩ ∧ w.cell? ⟨A, off + k * 5, none⟩ = some (.string s.label) ∧ w.cell? ⟨A, off + k * 5 + 1, none⟩ = some (.int .i64 s.box.x1) ∧ w.cell? ⟨A, off + k * 5 + 2, none⟩ = some (.int .i64 s.box.y1) ∧ w.cell? ⟨A, off + k * 5 + 3, none⟩ = some (.int .i64 s.box.x2) ∧ w.cell? ⟨A, off + k * 5 + 4, none⟩ = some (.int .i64 s.box.y2))
    (hval : Calls Tryd.prog 38 #[.slice base l.length cap] w fun e w' => e = .returned (.bool true) ∧ Below w.heap.size w w') :
    Calls Tryd.prog 15 #[.slice base l.length cap] w fun e w' => e = .returned (.string (strL (symTextB l))) ∧ Below w.heap.size w w' := by
  have mixed : Tryd.prog.follows .mixedOrders = true := by kernel_rfl
  go_enter Tryd.func15, Tryd.ntmps15
  go_wp2_with (go_at_call 38; refine hval.mono ?_)
  rintro e w1 ⟨rfl, b1⟩
  go_wp2
  go_loopw [11] (fun i wr => ∃ k : Nat, i = .int .i64 k ∧ k ≤ l.length ∧ BuildB w.heap.size w1.heap.size (symTextB (l.take k)) wr ∧ Below w.heap.size w wr) (fun i _ => l.length - (intOf i).toNat)
  case atStart => exact ⟨0, rfl, Nat.zero_le _, freshB b1.size, b1.alloc b1.size _⟩
  case round =>
    obtain ⟨k, rfl, hk, hI, hb⟩ := hrel
    by_cases hkl : k < l.length
    · obtain ⟨s, hs⟩ : ∃ s, l[k]? = some s := ⟨_, List.getElem?_eq_getElem hkl⟩
      obtain ⟨A, off, rfl, c0, c1, c2, c3, c4⟩ := hcells k s hs
      have hok' := okSys_mem hok s (List.mem_of_getElem? hs)
      obtain ⟨v0, v1, v2, v3, v4⟩ := okSym_v hok'
      have hA := block_lt_of_cell c0
      replace c0 := keepCellB hb hA c0
      replace c1 := keepCellB hb hA c1
      replace c2 := keepCellB hb hA c2
      replace c3 := keepCellB hb hA c3
      replace c4 := keepCellB hb hA c4
      have hi0 : (0 : Int) ≤ (k : Int) := by omega
      have hi1 : (k : Int) < (l.length : Int) := by omega
      go_wp2
      have hK : KeepB w 74 wr.heap.size w1.heap.size (wr.alloc (Obj.cells #[Value.string s.label, Value.int IntKind.i64 s.box.x1, Value.int IntKind.i64 s.box.y1, Value.int IntKind.i64 s.box.x2, Value.int IntKind.i64 s.box.y2] 74)) := keepB_start hb hg (build_lt hI) (by decide)
      have hJ := hI.alloc (Obj.cells #[Value.string s.label, Value.int IntKind.i64 s.box.x1, Value.int IntKind.i64 s.box.y1, Value.int IntKind.i64 s.box.x2, Value.int IntKind.i64 s.box.y2] 74)
      have hc : ∀ j, (wr.alloc (Obj.cells #[Value.string s.label, Value.int IntKind.i64 s.box.x1, Value.int IntKind.i64 s.box.y1, Value.int IntKind.i64 s.box.x2, Value.int IntKind.i64 s.box.y2] 74)).cell? ⟨wr.heap.size, j, none⟩ = #[Value.string s.label, Value.int IntKind.i64 s.box.x1, Value.int IntKind.i64 s.box.y1, Value.int IntKind.i64 s.box.x2, Value.int IntKind.i64 s.box.y2][j]? := fun j => World.cell?_alloc_at _ _ _ _ rfl
      have hwk : IntKind.i64.wrap ((k : Int) + 1) = (k : Int) + 1 := by rw [IntKind.wrap_i64]; have := okSys_len hok; omega
      have d1 : s.box.x1 ≤ 1000000 := by omega
      have d2 : s.box.y1 ≤ 1000000 := by omega
      have d3 : s.box.x2 ≤ 1000000 := by omega
      have d4 : s.box.y2 ≤ 1000000 := by omega
      have i1 := (l01Dec_ok (n := s.box.x1) (by omega) (by omega)).2
      have i2 := (l01Dec_ok (n := s.box.y1) (by omega) (by omega)).2
      have i3 := (l01Dec_ok (n := s.box.x2) (by omega) (by omega)).2
      have i4 := (l01Dec_ok (n := s.box.y2) (by omega) (by omega)).2
      have n1 : ¬ (9223372036854775807 < s.label.size + 1) := by omega
      have n2 : ¬ (9223372036854775807 < s.label.size + 1 + (itS s.box.x1).size) := by omega
      have n3 : ¬ (9223372036854775807 < s.label.size + 1 + (itS s.box.x1).size + 1) := by omega
      have n4 : ¬ (9223372036854775807 < s.label.size + 1 + (itS s.box.x1).size + 1 + (itS s.box.y1).size) := by omega
      have n5 : ¬ (9223372036854775807 < s.label.size + 1 + (itS s.box.x1).size + 1 + (itS s.box.y1).size + 1) := by omega
      have n6 : ¬ (9223372036854775807 < s.label.size + 1 + (itS s.box.x1).size + 1 + (itS s.box.y1).size + 1 + (itS s.box.x2).size) := by omega
      have n7 : ¬ (9223372036854775807 < s.label.size + 1 + (itS s.box.x1).size + 1 + (itS s.box.y1).size + 1 + (itS s.box.x2).size + 1) := by omega
      have n8 : ¬ (9223372036854775807 < s.label.size + 1 + (itS s.box.x1).size + 1 + (itS s.box.y1).size + 1 + (itS s.box.x2).size + 1 + (itS s.box.y2).size) := by omega
      have n9 : ¬ (9223372036854775807 < s.label.size + 1 + (itS s.box.x1).size + 1 + (itS s.box.y1).size + 1 + (itS s.box.x2).size + 1 + (itS s.box.y2).size + 1) := by omega
      have n10 : (symTextB (l.take k)).length + (s.label ++ ⟨#[32]⟩ ++ itS s.box.x1 ++ ⟨#[32]⟩ ++ itS s.box.y1 ++ ⟨#[32]⟩ ++ itS s.box.x2 ++ ⟨#[32]⟩ ++ itS s.box.y2 ++ ⟨#[10]⟩).size ≤ 1000000 := by
        have h6 := flat_len (f := symLineB) (c := 86) (l := l.take k) (fun a ha => symLine_len (okSys_mem hok a (List.mem_of_mem_take ha)))
        have h7 : (l.take k).length ≤ 8 := by rw [List.length_take]; have := okSys_len hok; omega
        have h8 : 86 * (l.take k).length ≤ 86 * 8 := Nat.mul_le_mul_left _ h7
        have e1 : (⟨#[32]⟩ : ByteArray).size = 1 := rfl
        have e2 : (⟨#[10]⟩ : ByteArray).size = 1 := rfl
        simp only [ByteArray.size_append, e1, e2]
        unfold symTextB
        omega
      clear v0 i1 i2 i3 i4
      have g0 := hc 0
      have g1 := hc 1
      have g2 := hc 2
      have g3 := hc 3
      have g4 := hc 4
      go_region_held3 (fun w' => w'.cell? ⟨wr.heap.size, 0, none⟩ = some (.string s.label) ∧ w'.cell? ⟨wr.heap.size, 1, none⟩ = some (.int .i64 s.box.x1) ∧ w'.cell? ⟨wr.heap.size, 2, none⟩ = some (.int .i64 s.box.y1) ∧ w'.cell? ⟨wr.heap.size, 3, none⟩ = some (.int .i64 s.box.x2) ∧ w'.cell? ⟨wr.heap.size, 4, none⟩ = some (.int .i64 s.box.y2) ∧ KeepB w 74 wr.heap.size w1.heap.size w')
        (first | (exact symS_keep (by assumption) (by assumption)) | (exact symS_others (by assumption) (by assumption) (by assumption)) | (refine ⟨?_, ?_, ?_, ?_, ?_, ?_⟩ <;> first | assumption | exact KeepB.drew (by assumption)))
        (first
          | (go_at_call_of 31 (Value.int .i64 s.box.x1); refine (decB v1.1 d1 ?_).mono ?_; (exact symS_glob (by assumption)); rintro e w' ⟨rfl, hd⟩)
          | (go_at_call_of 31 (Value.int .i64 s.box.y1); refine (decB v2.1 d2 ?_).mono ?_; (exact symS_glob (by assumption)); rintro e w' ⟨rfl, hd⟩)
          | (go_at_call_of 31 (Value.int .i64 s.box.x2); refine (decB v3.1 d3 ?_).mono ?_; (exact symS_glob (by assumption)); rintro e w' ⟨rfl, hd⟩)
          | (go_at_call_of 31 (Value.int .i64 s.box.y2); refine (decB v4.1 d4 ?_).mono ?_; (exact symS_glob (by assumption)); rintro e w' ⟨rfl, hd⟩)
          | (go_at_call 30; refine (bwriteK w.heap.size w1.heap.size (symTextB (l.take k)) _ _ ?_ n10 ?_).mono ?_; (exact build4 (by assumption) (by assumption) (by assumption) (by assumption) (by assumption)); (exact symS_size (by assumption)); rintro e w' ⟨rfl, hw1, hw2, hw3⟩))
      go_wp2
      go_roundw
      case rel =>
        refine ⟨k + 1, by push_cast; rfl, by omega, ?_, symS_below (by assumption)⟩
        rw [show symTextB (l.take (k + 1)) = symTextB (l.take k) ++ symLineB s from flat_take _ hs, ← symLine_bl]
        exact hw1
      case measure =>
        simp [intOf]
        omega
    · go_wp2_with (go_at_call 32; refine (bstrB w.heap.size w1.heap.size (symTextB (l.take k)) _ hI hb.size).mono ?_)
      rintro e w2 ⟨rfl, b2⟩
      go_wp2
      go_ret
      have e : k = l.length := by omega
      subst e
      rw [List.take_length]
      exact ⟨rfl, hb.trans b2⟩
end

section
open Go.Shelf Go.RowKit
/-! ### The contracts of the two functions -/
theorem hasSymB : HasBody Tryd.prog 15 := ⟨Tryd.f15, _, Tryd.func15, rfl, rfl⟩
theorem hasModB : HasBody Tryd.prog 10 := ⟨Tryd.f10, _, Tryd.func10, rfl, rfl⟩
theorem belowD_of {B : Nat} {w w' : World} (h : Below B w w') : BelowD B w w' := ⟨h, fun c => c.elim⟩
theorem c1_inv {A Z : Type} [Cod A] {e : Z → AV} {t : A → Option Z} {ds : List AV} {r : AV} (h : C1 e t ds = some r) : ∃ a z, ds = [enc a] ∧ t a = some z ∧ r = e z := by
  match ds, h with
  | [x], h =>
    have h2 : obind (dec x) (fun a0 => obind (t a0) fun c => some (e c)) = some r := h
    obtain ⟨a, h3, h4⟩ := obind_some h2
    obtain ⟨z, h5, h6⟩ := obind_some h4
    cases h6
    exact ⟨a, z, by rw [Cod.ed _ _ h3], h5, rfl⟩
theorem arr_one {vs : Array Value} {x : AV} (h : vs.size = [x].length) : ∃ v, vs = #[v] := by
  match vs, h with
  | ⟨[v]⟩, _ => exact ⟨v, rfl⟩
theorem valSysB {l : Sl Symbol} {X : Nat → Prop} {w : World} {v : Value} (hl : (l.getD []).length ≤ 4294967296) (hg : Glob Tryd.prog w) (hv : Rep (Own X RM.none) w RM.none (Sl.enc l) v) :
    Calls Tryd.prog 38 #[v] w fun e w' => e = .returned (.bool (okSys (l.getD []))) ∧ Below w.heap.size w w' := by
  have e0 : (C1 (fun c : Bool => enc c) t_impl_ValidSymbols) [enc l] = some (bv (okSys (l.getD []))) := by
    have : (C1 (fun c : Bool => enc c) t_impl_ValidSymbols) [enc l] = obind (t_impl_ValidSymbols l) fun c => some (enc c) := R1_enc _ _
    rw [this, validSys_ok l hl]
    rfl
  have hp := tt_impl_ValidSymbols [enc l] _ e0 X w #[v] hg rfl (fun i d u h2 h3 => by
    match i, h2, h3 with
    | 0, h2, h3 => cases h2; cases h3; exact hv)
  refine (callsB hb_impl_ValidSymbols hp).mono fun e w' ⟨u, e1, e2, e3⟩ => ⟨?_, e2.toBelow⟩
  rw [e1, repN_bvB e3]
theorem symNoB (v : Value) (w : World) (hval : Calls Tryd.prog 38 #[v] w fun e w' => e = .returned (.bool false) ∧ Below w.heap.size w w') :
    Calls Tryd.prog 15 #[v] w fun e w' => e = .returned (.string ⟨#[]⟩) ∧ Below w.heap.size w w' := by
  have mixed : Tryd.prog.follows .mixedOrders = true := by kernel_rfl
  go_enter Tryd.func15, Tryd.ntmps15
  go_wp2_with (go_at_call 38; refine hval.mono ?_)
  rintro e w1 ⟨rfl, b1⟩
  go_wp2
  go_ret
  exact ⟨rfl, b1⟩
theorem rowB {A : Type} [Row A] {l : List A} {k j : Nat} {a : A} {c : AV} (h : l[k]? = some a) (hj : (Row.cells a)[j]? = some c) : cellAt (l.map Row.cells) k j = some c := by
  unfold cellAt
  rw [List.getElem?_map, h]
  exact hj
theorem rep_svB {own : Nat → Prop} {w : World} {ρ : RM} {s : ByteArray} {v : Value} (h : Rep own w ρ (sv s) v) : v = .string s := by cases h; rfl
theorem rep_ivB {own : Nat → Prop} {w : World} {ρ : RM} {n : Int} {v : Value} (h : Rep own w ρ (iv n) v) : v = .int .i64 n := by cases h; rfl
/-- A slice of rows that is read: where its cells lie. -/
theorem slB {A : Type} [Row A] {l : Sl A} {own : Nat → Prop} {w : World} {ρ : RM} {v : Value} (h : Rep own w ρ (Sl.enc l) v) :
    ∃ base cap, v = .slice base (l.getD []).length cap ∧ ∀ (k : Nat) a, (l.getD [])[k]? = some a → ∃ B off, base = some ⟨B, off, none⟩ ∧ ∀ (j : Nat) c, (Row.cells a)[j]? = some c → ∃ u, w.cell? ⟨B, off + k * Row.w A + j, none⟩ = some u ∧ Rep own w RM.none c u := by
  cases l with
  | none =>
    cases h
    exact ⟨none, 0, rfl, fun k a h => by simp at h⟩
  | some l =>
    generalize hr : Sl.enc (some l) = d at h
    cases h with
    | @fs _ k rows a cap cf hk hc ha hown hcell hh =>
      have hr2 : (AV.fs (Row.w A) (l.map Row.cells)) = .fs k rows := hr
      cases hr2
      refine ⟨some a, cap, by simp, fun i x hx => ?_⟩
      have hlt : i < l.length := (List.getElem?_eq_some_iff.1 hx).1
      have hs := ha (by simp; omega)
      obtain ⟨B, off, spot⟩ := a
      simp only at hs
      subst hs
      exact ⟨B, off, rfl, fun j c hj => ⟨cf i j, hcell i j c (rowB hx hj), hh i j c (rowB hx hj)⟩⟩
    | sc _ => cases hr
    | top => cases hr
    | agg _ _ _ => cases hr
    | tup _ _ => cases hr
    | ptr _ _ _ => cases hr
    | sl _ _ _ => cases hr
    | fptr _ _ _ _ => cases hr
    | fn _ _ => cases hr
theorem tt_impl_SymbolsText : PureOK Tryd.prog n_impl_SymbolsText (C1 (fun c : ByteArray => enc c) t_impl_SymbolsText) := by
  intro ds r hf X w vs hg hn hvs
  obtain ⟨l, z, rfl, ht, rfl⟩ := c1_inv hf
  obtain ⟨v, rfl⟩ := arr_one hn
  have hv := hvs 0 _ v rfl rfl
  unfold t_impl_SymbolsText at ht
  cases hl : decide ((l.getD []).length ≤ 4294967296) with
  | false => rw [hl, cond_false] at ht; cases ht
  | true =>
    rw [hl, cond_true] at ht
    have hl := of_decide_eq_true hl
    unfold CallF
    rw [callFunc_body hasSymB]
    show Calls Tryd.prog 15 _ w _
    have hval := valSysB hl hg hv
    cases ho : okSys (l.getD []) with
    | false =>
      rw [ho, cond_false] at ht
      cases ht
      rw [ho] at hval
      refine (symNoB v w hval).mono fun e w' ⟨h1, h2⟩ => ⟨_, h1, belowD_of h2, repN_sc rfl⟩
    | true =>
      rw [ho, cond_true] at ht
      cases ht
      rw [ho] at hval
      obtain ⟨base, cap, rfl, hc⟩ := slB hv
      refine (symWalkB (l.getD []) ho base cap w hg (fun k s hs => ?_) hval).mono fun e w' ⟨h1, h2⟩ => ⟨_, h1, belowD_of h2, repN_sc rfl⟩
      obtain ⟨B, off, hb, hcc⟩ := hc k s hs
      obtain ⟨u0, c0, r0⟩ := hcc 0 (sv s.label) rfl
      obtain ⟨u1, c1, r1⟩ := hcc 1 (iv s.box.x1) rfl
      obtain ⟨u2, c2, r2⟩ := hcc 2 (iv s.box.y1) rfl
      obtain ⟨u3, c3, r3⟩ := hcc 3 (iv s.box.x2) rfl
      obtain ⟨u4, c4, r4⟩ := hcc 4 (iv s.box.y2) rfl
      rw [rep_svB r0] at c0
      rw [rep_ivB r1] at c1
      rw [rep_ivB r2] at c2
      rw [rep_ivB r3] at c3
      rw [rep_ivB r4] at c4
      exact ⟨B, off, hb, c0, c1, c2, c3, c4⟩
end

def t_laws_FnExactSymbolsText (aList_ : Sl Symbol) : Option Bool :=
  obind (t_laws_szSymbolS aList_ 1048576) fun c1 =>
  bif decide (c1 < 0) then
    some true
  else
    obind (t_laws_toSymbolS aList_) fun c3 =>
    obind (t_spec_SymbolsText c3) fun c8 =>
    obind (t_laws_toSymbolS aList_) fun c9 =>
    obind (t_impl_SymbolsText c9) fun c14 =>
    bif !decide (c14 = c8) then
      some false
    else
      obind (t_laws_toSymbolS aList_) fun c16 =>
      obind (t_laws_eqSymbolS c9 c16) fun c21 =>
      bif !c21 then
        some false
      else
        some true

theorem ts_laws_FnExactSymbolsText (env : Nat → Contract) (he_impl_SymbolsText : env n_impl_SymbolsText = .pure (C1 (fun c : ByteArray => enc c) t_impl_SymbolsText)) (he_laws_eqSymbolS : env n_laws_eqSymbolS = .pure (C2 (fun c : Bool => enc c) t_laws_eqSymbolS)) (he_laws_szSymbolS : env n_laws_szSymbolS = .pure (C2 (fun c : Int => enc c) t_laws_szSymbolS)) (he_laws_toSymbolS : env n_laws_toSymbolS = .pure (C1 (fun c : (Sl Symbol) => rS c) t_laws_toSymbolS)) (he_spec_SymbolsText : env n_spec_SymbolsText = .pure (C1 (fun c : ByteArray => enc c) t_spec_SymbolsText)) (aList_ : Sl Symbol) : Sim (denFn Tryd.prog env n_laws_FnExactSymbolsText [Sl.enc aList_] []) (t_laws_FnExactSymbolsText aList_) fun c p => release p.2 depth p.1 = some ((fun c : Bool => enc c) c) := by
  have O := Hold.nil []
  generalize hB : (⟨[], []⟩ : Base) = B at O
  clear hB
  rw [e_laws_FnExactSymbolsText]
  unfold t_laws_FnExactSymbolsText
  refine sim_call2 he_laws_szSymbolS (snapD_enc _ _) (snapD_int _ _) (fun c1 => ?_)
  refine sim_let2 (hand_plain (by rfl) _ _) ?_
  refine sim_let (v := bv (decide (c1 < 0))) (aBin_lss _ _) ?_
  refine sim_cond (fun c2 => ?_) (fun c2 => ?_)
  · exact sim_ret (release_plain (by rfl) _)
  · refine sim_call1 he_laws_toSymbolS (snapD_enc _ _) (fun c3 => ?_)
    refine sim_hand (A := Symbol) O (fun x5 h6 O7 => ?_)
    replace O7 : Hold B h6 [(x5, obS (c3 : Sl Symbol))] := O7
    refine sim_call1 he_spec_SymbolsText ((O7.tab (A := Symbol) (s := c3) 0 rfl).snap) (fun c8 => ?_)
    refine sim_let2 (hand_plain (by rfl) _ _) ?_
    refine sim_call1 he_laws_toSymbolS (snapD_enc _ _) (fun c9 => ?_)
    refine sim_hand (A := Symbol) O7 (fun x11 h12 O13 => ?_)
    replace O13 : Hold B h12 [(x5, obS (c3 : Sl Symbol)), (x11, obS (c9 : Sl Symbol))] := O13
    refine sim_call1 he_impl_SymbolsText ((O13.tab (A := Symbol) (s := c9) 1 rfl).snap) (fun c14 => ?_)
    refine sim_let2 (hand_plain (by rfl) _ _) ?_
    refine sim_let (v := bv (!decide (c14 = c8))) (aCmp_neS _ _) ?_
    refine sim_cond (fun c15 => ?_) (fun c15 => ?_)
    · exact sim_ret (release_plain (by rfl) _)
    · refine sim_call1 he_laws_toSymbolS (snapD_enc _ _) (fun c16 => ?_)
      refine sim_hand (A := Symbol) O13 (fun x18 h19 O20 => ?_)
      replace O20 : Hold B h19 [(x5, obS (c3 : Sl Symbol)), (x11, obS (c9 : Sl Symbol)), (x18, obS (c16 : Sl Symbol))] := O20
      refine sim_call2 he_laws_eqSymbolS ((O20.tab (A := Symbol) (s := c9) 1 rfl).snap) ((O20.tab (A := Symbol) (s := c16) 2 rfl).snap) (fun c21 => ?_)
      refine sim_let2 (hand_plain (by rfl) _ _) ?_
      refine sim_let (v := bv (!c21)) (aUn_not _) ?_
      refine sim_cond (fun c22 => ?_) (fun c22 => ?_)
      · exact sim_ret (release_plain (by rfl) _)
      · exact sim_ret (release_plain (by rfl) _)
theorem tt_laws_FnExactSymbolsText : PureOK Tryd.prog n_laws_FnExactSymbolsText (C1 (fun c : Bool => enc c) t_laws_FnExactSymbolsText) := pureC1 (Econs tt_impl_SymbolsText (Econs tt_laws_eqSymbolS (Econs tt_laws_szSymbolS (Econs tt_laws_toSymbolS (Econs tt_spec_SymbolsText E0))))) mixed hb_laws_FnExactSymbolsText fun aList_ => ts_laws_FnExactSymbolsText _ (by simp [envL]) (by simp [envL]) (by simp [envL]) (by simp [envL]) (by simp [envL]) aList_

theorem true_FnExactSymbolsText (a : Sl Symbol) (ha : (a.getD []).length ≤ maxLen) : t_laws_FnExactSymbolsText a = some true := by
  rw [maxLen_eq] at ha
  obtain ⟨r, sz, hr⟩ := szSymbolS_ok a (by omega)
  unfold t_laws_FnExactSymbolsText
  rw [sz, obind_sm]
  by_cases c0 : r < 0
  · rw [decide_eq_true c0, cond_true]
  rw [decide_eq_false c0, cond_false]
  have hl : (a.getD []).length ≤ 1048576 := hr.resolve_left c0
  have tb := toSymbolS_ok a (by omega)
  have hl2 : ((some (a.getD []) : Sl Symbol).getD []).length ≤ 4294967296 := by show (a.getD []).length ≤ _; omega
  have bo := symText_both (l := some (a.getD [])) hl2
  have E := eqSy_ok (a := some (a.getD [])) (b := some (a.getD [])) rfl hl2
  obtain ⟨v, hv⟩ : ∃ v, t_impl_SymbolsText (some (a.getD [])) = some v := by
    unfold t_impl_SymbolsText
    rw [decide_eq_true hl2, cond_true]
    cases okSys ((some (a.getD []) : Sl Symbol).getD [])
    · exact ⟨_, rfl⟩
    · exact ⟨_, rfl⟩
  rw [tb, obind_sm, bo, hv, obind_sm, obind_sm, hv, obind_sm, decide_eq_true rfl, Bool.not_true, cond_false, obind_sm, E, obind_sm, Bool.not_true, cond_false]

theorem ok_laws_FnExactSymbolsText : PureOK Tryd.prog n_laws_FnExactSymbolsText (G1 (fun a : Sl Symbol => Wt.big a) fun _ => bv true) := lawC1 tt_laws_FnExactSymbolsText fun a h => true_FnExactSymbolsText a (big_len h)
theorem law_FnExactSymbolsText (a : Sl Symbol) (ha : Row.fine a) : G1 (fun a : Sl Symbol => Wt.big a) (fun _ => bv true) [enc a] = some (bv true) := G1_enc _ _ a (Wt.fb a ha)

theorem isC_9 {cs : List AV} (h : IsC Tryd.prog 9 cs) : ∃ x : ByteArray, cs = Row.cells x ∧ Row.fine x := by
  obtain ⟨n, rfl, hn⟩ := IsC.strE Tryd.underlying9 h
  exact ⟨n, rfl, hn⟩
theorem isC_2 {cs : List AV} (h : IsC Tryd.prog 2 cs) : ∃ x : Int, cs = Row.cells x ∧ Row.fine x := by
  obtain ⟨n, rfl, hn⟩ := IsC.intE Tryd.underlying2 h
  exact ⟨n, rfl, fine_int hn⟩
theorem isC_68 {cs : List AV} (h : IsC Tryd.prog 68 cs) : ∃ x : Box, cs = Row.cells x ∧ Row.fine x := by
  replace h := IsC.structE Tryd.underlying68 h
  obtain ⟨c0, r0, rfl, q0, k0⟩ := IsFs.consE h
  obtain ⟨c1, r1, rfl, q1, k1⟩ := IsFs.consE k0
  obtain ⟨c2, r2, rfl, q2, k2⟩ := IsFs.consE k1
  obtain ⟨c3, r3, rfl, q3, k3⟩ := IsFs.consE k2
  cases IsFs.nilE k3
  obtain ⟨v0, rfl, w0⟩ := isC_2 q0
  obtain ⟨v1, rfl, w1⟩ := isC_2 q1
  obtain ⟨v2, rfl, w2⟩ := isC_2 q2
  obtain ⟨v3, rfl, w3⟩ := isC_2 q3
  exact ⟨⟨v0, v1, v2, v3⟩, rfl, w0, w1, w2, w3⟩
theorem isC_70 {cs : List AV} (h : IsC Tryd.prog 70 cs) : ∃ x : Symbol, cs = Row.cells x ∧ Row.fine x := by
  replace h := IsC.structE Tryd.underlying70 h
  obtain ⟨c0, r0, rfl, q0, k0⟩ := IsFs.consE h
  obtain ⟨c1, r1, rfl, q1, k1⟩ := IsFs.consE k0
  cases IsFs.nilE k1
  obtain ⟨v0, rfl, w0⟩ := isC_9 q0
  obtain ⟨v1, rfl, w1⟩ := isC_68 q1
  exact ⟨⟨v0, v1⟩, rfl, w0, w1⟩
theorem isC_33 {cs : List AV} (h : IsC Tryd.prog 33 cs) : ∃ x : (Sl Symbol), cs = Row.cells x ∧ Row.fine x := by
  rcases IsC.sliceE Tryd.underlying33 h with rfl | ⟨rows, rfl, h1, h2⟩
  · exact ⟨none, rfl, Sl.fineNil⟩
  · exact Sl.isC (by kernel_rfl) h1 fun row hr => isC_70 (h2 row hr)
theorem own : ownKnob Tryd.prog.godebug = none := by kernel_rfl
theorem laidOut : laidOutB Tryd.prog = true := by kernel_rfl

theorem door_met (os : Os) (args : Array Value) : laidMetH Tryd.prog Rows.fnExactSymbolsTextRow.laid ((World.doorLaid Tryd.prog 72 os).forCall (fun _ _ => 0) ⟨#[], args, []⟩).memory :=
  laidMetH_of_parts3 (fuel := 8) (laidMet_of_run' 8 (by kernel_rfl) (by kernel_rfl)) (by kernel_rfl) (by kernel_rfl)
theorem globs {W : World} (h : laidMetH Tryd.prog Rows.fnExactSymbolsTextRow.laid W) : Glob Tryd.prog W := by
  exact glob_laid (Rows.fnExactSymbolsTextRow.laid.getD 0 ("", .nil)) (Rows.fnExactSymbolsTextRow.laid.getD 1 ("", .nil)) (g := 0) (t := 138) (e := 123) (n := 20) (by kernel_rfl) (by kernel_rfl) Tryd.underlying138 Tryd.underlying123 (by kernel_rfl) (by kernel_rfl) (by kernel_rfl) (by kernel_rfl) h
set_option maxRecDepth 100000 in
theorem rowHolds : Rows.FnExactSymbolsTextSaid :=
  OpenClaim.holds_of_wide 4 Tryd.f4 rfl rfl rfl rfl rfl rfl rfl ⟨rfl, rfl, rfl, rfl, rfl⟩ rfl rfl rfl rfl rfl (by kernel_rfl) Tryd.func4 (by kernel_rfl)
    (of_decide_eq_true (by kernel_rfl)) (by unfold Func.isWrapper; rw [if_neg (by decide +kernel)]; exact ⟨rfl, rfl⟩)
    (fun os started H enc _ => law_door (C := Tryd.checked) (s := Rows.fnExactSymbolsTextSpec) (laid := Rows.fnExactSymbolsTextRow.laid) own started (by kernel_rfl) Tryd.func4
      (ChangeSpec.witness_shaped (enc := enc) (C := Tryd.checked) (os := os) (X := fun w _ => laidMetH Tryd.prog Rows.fnExactSymbolsTextRow.laid w) false (World.doorLaid Tryd.prog 72 os) #[.slice none 0 0] 8 rfl (World.shaped_of_RefB (by kernel_rfl) (by kernel_rfl)) (by kernel_rfl) (by kernel_rfl) (by kernel_rfl) (door_met os _))
      laidOut rfl (tb := 4) rfl Tryd.underlying4 (ts := [33, 70, 9, 68, 2]) (by kernel_rfl)
      (fun ds h => by match ds, h with | [d0], _ => rfl)
      hb_laws_FnExactSymbolsText ok_laws_FnExactSymbolsText (by
    intro l h
    obtain ⟨a0, l0, rfl, g0, k0⟩ := h
    cases k0
    obtain ⟨b0, e0, w0⟩ := isC_33 (isV_one (by kernel_rfl) g0)
    obtain rfl := one_enc e0
    exact law_FnExactSymbolsText b0 w0) (fun W h => globs h))
theorem holds : Rows.FnExactSymbolsTextCardSaid :=
  Claim7.holds_tied_plain_at .later [] [.data, .data, .data] true (true, "7fa4298b5785fd3a44aaacfe6035761d781ac1e09d21ed3d0a1c9dec825a721f") true
    rowHolds (fun _ h => by cases h) (by kernel_rfl) (fun _ h => by cases h) fnExactSymbolsText_row_tie rfl ⟨rfl, rfl⟩ (by kernel_rfl) rfl
    (fun f fn hf hfn => by
      obtain rfl : f = 4 := Option.some.inj ((show Tryd.prog.funcNamed Rows.fnExactSymbolsTextRow.func = some 4 by kernel_rfl).symm.trans hf) |>.symm
      obtain rfl : fn = Tryd.f4 := (Option.some.inj (Tryd.func4.symm.trans hfn)).symm
      exact ⟨by kernel_rfl, fun j t ht => by
        rw [Tryd.params4] at ht
        have hm : t ∈ [33] := by simpa using Array.mem_of_getElem? ht
        have hall : ([33].all fun u => !Tryd.prog.wantsStandIn u) = true := by kernel_rfl
        exact (show Tryd.prog.wantsStandIn t = false by simpa using List.all_eq_true.1 hall t hm)⟩)
    (by kernel_rfl)
#print axioms holds
end Go.Proofs.YtielmmmoldloeaaDoor
