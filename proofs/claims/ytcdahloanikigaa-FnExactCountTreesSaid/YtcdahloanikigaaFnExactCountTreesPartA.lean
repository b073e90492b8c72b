/-
  Functions that the law FnExactCountTrees reaches: their walks and contracts, part 1.
-/
import Derived.Test.YtcdahloanikigaaFnExactCountTreesGen
namespace Go.Proofs.Ytcdahloanikigaa
open Go Go.Eng Go.Eng.Cod
set_option maxRecDepth 100000
set_option linter.unusedVariables false
set_option linter.unusedSimpArgs false

theorem nil_ok : EnvOK Try.prog (envL []) := E0

def within (a b c : Int) : Bool := decide (b ≤ a) && decide (a ≤ c)

theorem ok_impl_within : PureOK Try.prog n_impl_within (T3 within) := pureT3 nil_ok mixed hb_impl_within fun a b c => by
  simp [e_impl_within, within]

theorem ok_spec_l00In : PureOK Try.prog n_spec_l00In (T3 within) := pureT3 nil_ok mixed hb_spec_l00In fun a b c => by
  simp [e_spec_l00In, within]

def absI (a : Int) : Int := bif decide (a < 0) then wr (-a) else a

theorem ok_impl_abs : PureOK Try.prog n_impl_abs (T1 absI) := pureT1 nil_ok mixed hb_impl_abs fun a => by
  simp [e_impl_abs, absI]

theorem ok_spec_l05Size : PureOK Try.prog n_spec_l05Size (T1 absI) := pureT1 nil_ok mixed hb_spec_l05Size fun a => by
  simp [e_spec_l05Size, absI]

theorem ok_spec_l00Min : PureOK Try.prog n_spec_l00Min (T2 fun a b : Int => min a b) := pureT2 nil_ok mixed hb_spec_l00Min fun a b => by
  simp [e_spec_l00Min, minI]

theorem ok_spec_l00Max : PureOK Try.prog n_spec_l00Max (T2 fun a b : Int => max a b) := pureT2 nil_ok mixed hb_spec_l00Max fun a b => by
  simp [e_spec_l00Max, maxI]

def validBox (b : Box) : Bool := within b.x1 0 b.x2 && within b.y1 0 b.y2 && decide (b.x2 ≤ 4095) && decide (b.y2 ≤ 4095)

theorem ok_impl_ValidBox : PureOK Try.prog n_impl_ValidBox (T1 validBox) :=
  pureT1 (E1 ok_impl_within) mixed hb_impl_ValidBox fun b => by
  simp [e_impl_ValidBox, envL, aBox, aLoad, cut, validBox]

theorem ok_spec_l02Box : PureOK Try.prog n_spec_l02Box (T1 validBox) :=
  pureT1 (E1 ok_spec_l00In) mixed hb_spec_l02Box fun b => by
  simp [e_spec_l02Box, envL, aBox, aLoad, cut, validBox]

theorem ok_laws_toBox : PureOK Try.prog n_laws_toBox (T1 fun b : Box => b) := pureT1 nil_ok mixed hb_laws_toBox fun b => by
  simp [e_laws_toBox, aBox, aLoad, cut, aStore, splice, retL, resL, pack]

theorem ok_laws_eqBox : PureOK Try.prog n_laws_eqBox (T2 fun a b : Box => decide (a = b)) := pureT2 nil_ok mixed hb_laws_eqBox fun a b => by
  simp [e_laws_eqBox, aBox, aLoad, cut]
  obtain ⟨a1, a2, a3, a4⟩ := a
  obtain ⟨b1, b2, b3, b4⟩ := b
  simp

theorem ok_laws_toSymbol : PureOK Try.prog n_laws_toSymbol (T1 fun b : Symbol => b) := pureT1 (E1 ok_laws_toBox) mixed hb_laws_toSymbol fun b => by
  simp [e_laws_toSymbol, envL, aBox, aLoad, cut, aStore, splice, retL, resL, pack]

theorem ok_laws_eqSymbol : PureOK Try.prog n_laws_eqSymbol (T2 fun a b : Symbol => decide (a = b)) := pureT2 (E1 ok_laws_eqBox) mixed hb_laws_eqSymbol fun a b => by
  simp [e_laws_eqSymbol, envL, aBox, aLoad, cut]
  obtain ⟨a0, a1⟩ := a
  obtain ⟨b0, b1⟩ := b
  simp

def names : List ByteArray := [⟨#[110, 111, 110, 101]⟩, ⟨#[114, 105, 103, 104, 116]⟩, ⟨#[97, 98, 111, 118, 101]⟩, ⟨#[98, 101, 108, 111, 119]⟩, ⟨#[117, 112, 112, 101, 114]⟩, ⟨#[108, 111, 119, 101, 114]⟩, ⟨#[105, 110, 115, 105, 100, 101]⟩]
@[simp] theorem names_len : names.length = 7 := rfl

def find (s : ByteArray) : List ByteArray → Nat → Int
  | [], _ => -1
  | x :: r, i => bif decide (x = s) then (i : Int) else find s r (i + 1)
def relationNamed (s : ByteArray) : Int × Int := bif decide (find s names 0 < 0) then (0, 3) else (find s names 0, 0)
theorem find_pos (s : ByteArray) : ∀ (l : List ByteArray) (i : Nat), find s l i = -1 ∨ 0 ≤ find s l i
  | [], _ => .inl rfl
  | x :: r, i => by
    unfold find
    cases decide (x = s)
    · simpa using find_pos s r (i + 1)
    · right; simp

def relation (a b : Box) : Int :=
  bif !decide (a = b) && (decide (a.x1 ≤ b.x1) && (decide (a.y1 ≤ b.y1) && (decide (b.x2 ≤ a.x2) && decide (b.y2 ≤ a.y2)))) then 6
  else bif decide (wr (a.x1 + a.x2) ≤ wr (2 * b.x1)) then
    bif decide (wr (2 * b.y2) ≤ wr (a.y1 + a.y2)) then 4 else bif decide (wr (a.y1 + a.y2) ≤ wr (2 * b.y1)) then 5 else 1
  else bif decide (b.y2 ≤ a.y1) then 2 else bif decide (a.y2 ≤ b.y1) then 3 else 0

theorem ok_impl_relation : PureOK Try.prog n_impl_relation (T2 relation) := pureT2 nil_ok mixed hb_impl_relation fun a b => by
  have hc := aCmp_box a b
  simp [e_impl_relation, aBox, aLoad, cut, hc.1, hc.2, relation]
  generalize decide (a = b) = c0
  generalize decide (a.x1 ≤ b.x1) = c1
  generalize decide (a.y1 ≤ b.y1) = c2
  generalize decide (b.x2 ≤ a.x2) = c3
  generalize decide (b.y2 ≤ a.y2) = c4
  generalize decide (wr (a.x1 + a.x2) ≤ wr (2 * b.x1)) = c5
  generalize decide (wr (2 * b.y2) ≤ wr (a.y1 + a.y2)) = c6
  generalize decide (wr (a.y1 + a.y2) ≤ wr (2 * b.y1)) = c7
  generalize decide (b.y2 ≤ a.y1) = c8
  generalize decide (a.y2 ≤ b.y1) = c9
  cases c5 <;> cases c1 <;> cases c2 <;> cases c3 <;> cases c4 <;> cases c0 <;> simp

theorem ok_spec_l20Relation : PureOK Try.prog n_spec_l20Relation (T2 relation) := pureT2 nil_ok mixed hb_spec_l20Relation fun a b => by
  have hc := aCmp_box a b
  simp [e_spec_l20Relation, aBox, aLoad, cut, hc.1, hc.2, relation]
  generalize decide (a = b) = c0
  generalize decide (a.x1 ≤ b.x1) = c1
  generalize decide (a.y1 ≤ b.y1) = c2
  generalize decide (b.x2 ≤ a.x2) = c3
  generalize decide (b.y2 ≤ a.y2) = c4
  generalize decide (wr (a.x1 + a.x2) ≤ wr (2 * b.x1)) = c5
  generalize decide (wr (2 * b.y2) ≤ wr (a.y1 + a.y2)) = c6
  generalize decide (wr (a.y1 + a.y2) ≤ wr (2 * b.y1)) = c7
  generalize decide (b.y2 ≤ a.y1) = c8
  generalize decide (a.y2 ≤ b.y1) = c9
  cases c5 <;> cases c1 <;> cases c2 <;> cases c3 <;> cases c4 <;> cases c0 <;> simp

def joinBox (a b : Box) : Box := ⟨min a.x1 b.x1, min a.y1 b.y1, max a.x2 b.x2, max a.y2 b.y2⟩

theorem ok_impl_joinBoxes : PureOK Try.prog n_impl_joinBoxes (T2 joinBox) := pureT2 E0 mixed hb_impl_joinBoxes fun a b => by
  simp [e_impl_joinBoxes, aBox, aLoad, cut, aStore, splice, aBuild, aFill, retL, resL, pack, joinBox]

theorem ok_spec_l02Join : PureOK Try.prog n_spec_l02Join (T2 joinBox) := pureT2 (E2 ok_spec_l00Min ok_spec_l00Max) mixed hb_spec_l02Join fun a b => by
  simp [e_spec_l02Join, envL, aBox, aLoad, cut, aStore, splice, aBuild, aFill, retL, resL, pack, joinBox]

def isLow (b : UInt8) : Bool := decide ((97 : Int) ≤ (b.toNat : Int)) && decide ((b.toNat : Int) ≤ 122)

theorem ok_impl_isLetter : PureOK Try.prog n_impl_isLetter (T1 isLow) := pureT1 E0 mixed hb_impl_isLetter fun b => by
  simp [e_impl_isLetter, isLow]

theorem ok_spec_l01Small : PureOK Try.prog n_spec_l01Small (T1 isLow) := pureT1 E0 mixed hb_spec_l01Small fun b => by
  simp [e_spec_l01Small, isLow]

theorem ok_internal_bytealg_IndexByteString : PureOK Try.prog n_internal_bytealg_IndexByteString (T2 indexB) :=
  pure_indexByte (fn := Try.f240) Try.func240 (by kernel_rfl) (by kernel_rfl) (by kernel_rfl) (by kernel_rfl)

theorem ok_internal_stringslite_IndexByte : PureOK Try.prog n_internal_stringslite_IndexByte (T2 indexB) := pureT2 (E1 ok_internal_bytealg_IndexByteString) mixed hb_internal_stringslite_IndexByte fun s b => by
  simp [e_internal_stringslite_IndexByte, envL]

def byte0 (t : ByteArray) : UInt8 := (bl t).headD 0
theorem one_byte {t : ByteArray} (h : t.size = 1) : bl t = [byte0 t] := by
  have : (bl t).length = 1 := by rw [bl_len, h]
  match hb : bl t, this with
  | [b], _ => simp [byte0, hb]
theorem ok_internal_stringslite_Index : PureOK Try.prog n_internal_stringslite_Index (G2 (fun _ t : ByteArray => decide (t.size = 1)) fun s t => iv (indexB s (byte0 t))) :=
  pureG2 (E1 ok_internal_stringslite_IndexByte) mixed hb_internal_stringslite_Index fun s t h => by
  have h1 : t.size = 1 := of_decide_eq_true h
  have h2 : aLenK .str (sv t) = some (iv 1) := by rw [aLenK_str, h1]; rfl
  have h3 : aCmp .eql .plain (iv 1) (iv 0) = some (bv false) := rfl
  have h4 : aCmp .eql .plain (iv 1) (iv 1) = some (bv true) := rfl
  have h5 : aIndexStr (sv t) (iv 0) = some (bt (byte0 t)) := by
    rw [idx_str, h1, one_byte h1]
    rfl
  rw [e_internal_stringslite_Index]
  simp only [enc_str, h2, obind_sm, h3, guardB_false, cond_false, aCmp_eqS, obind2_sm, aPick_bv, condB_bv]
  by_cases e : t = s
  · subst e
    have e0 : indexB t (byte0 t) = 0 := by
      obtain ⟨⟨l⟩⟩ := t
      match l, h1 with
      | [b], _ => 
        show (match (List.range 1).find? (fun i => (⟨#[b]⟩ : ByteArray)[i]! == b) with | some i => (i : Int) | none => -1) = 0
        have : ((⟨#[b]⟩ : ByteArray)[0]! == b) = true := by
          have : (⟨#[b]⟩ : ByteArray)[0]! = b := rfl
          rw [this]
          simp
        simp [List.range_succ, this]
    simp only [decide_true, cond_true, obind_sm, release_iv, e0]
  · simp only [e, decide_false, cond_false, h4, obind_sm, cond_true, h5]
    simp [envL]

theorem ok_strings_Index : PureOK Try.prog n_strings_Index (G2 (fun _ t : ByteArray => decide (t.size = 1)) fun s t => iv (indexB s (byte0 t))) :=
  pureG2 (E1 ok_internal_stringslite_Index) mixed hb_strings_Index fun s t h => by
  simp [e_strings_Index, envL, of_decide_eq_true h]

theorem ok_strings_Contains : PureOK Try.prog n_strings_Contains (G2 (fun _ t : ByteArray => decide (t.size = 1)) fun s t => bv (decide (0 ≤ indexB s (byte0 t)))) :=
  pureG2 (E1 ok_strings_Index) mixed hb_strings_Contains fun s t h => by
  simp [e_strings_Contains, envL, of_decide_eq_true h]

def labelB (b : UInt8) : Bool := decide ((b.toNat : Int) = 43) || (decide ((b.toNat : Int) = 45) || (decide ((b.toNat : Int) = 42) || (decide ((b.toNat : Int) = 47) || (decide ((b.toNat : Int) = 61) || (decide ((b.toNat : Int) = 40) || (decide ((b.toNat : Int) = 41) || (decide ((b.toNat : Int) = 46) || (decide ((b.toNat : Int) = 44) ||
  (isLow b || (decide ((48 : Int) ≤ (b.toNat : Int)) && decide ((b.toNat : Int) ≤ 57)))))))))))
def labelSet : ByteArray := ⟨#[48, 49, 50, 51, 52, 53, 54, 55, 56, 57, 43, 45, 42, 47, 61, 40, 41, 46, 44]⟩
theorem label_all : ∀ n : Fin 256, (isLow (UInt8.ofNat n.val) || decide (0 ≤ indexB labelSet (UInt8.ofNat n.val))) = labelB (UInt8.ofNat n.val) := by decide +kernel
theorem label_eq (b : UInt8) : (isLow b || decide (0 ≤ indexB labelSet b)) = labelB b := by
  have := label_all ⟨b.toNat, b.toNat_lt⟩
  simpa using this
def isLabel (s : ByteArray) : Bool := decide (s.size = 1) && labelB (byte0 s)

theorem ok_spec_l11Label : PureOK Try.prog n_spec_l11Label (T1 labelB) := pureT1 (E1 ok_spec_l01Small) mixed hb_spec_l11Label fun b => by
  cases hw : isLow b <;> simp [e_spec_l11Label, envL, labelB, hw]
  all_goals cases decide ((48 : Int) ≤ (b.toNat : Int)) <;> simp
  all_goals
    congr 1
    generalize decide ((b.toNat : Int) = 43) = c43
    generalize decide ((b.toNat : Int) = 45) = c45
    generalize decide ((b.toNat : Int) = 42) = c42
    generalize decide ((b.toNat : Int) = 47) = c47
    generalize decide ((b.toNat : Int) = 61) = c61
    generalize decide ((b.toNat : Int) = 40) = c40
    generalize decide ((b.toNat : Int) = 41) = c41
    generalize decide ((b.toNat : Int) = 46) = c46
    generalize decide ((b.toNat : Int) = 44) = c44
    generalize decide ((b.toNat : Int) ≤ 57) = d
    revert c43 c45 c42 c47 c61 c40 c41 c46 c44 d
    decide +kernel

theorem ok_impl_IsLabel : PureOK Try.prog n_impl_IsLabel (T1 isLabel) := pureT1 (E2 ok_impl_isLetter ok_strings_Contains) mixed hb_impl_IsLabel fun s => by
  by_cases h1 : s.size = 1
  · have h5 : aIndexStr (sv s) (iv 0) = some (bt (byte0 s)) := by
      rw [idx_str, h1, one_byte h1]
      rfl
    have hl := label_eq (byte0 s)
    unfold labelSet at hl
    cases hw : isLow (byte0 s)
    · rw [hw] at hl
      simp at hl
      simp [e_impl_IsLabel, envL, h5, h1, hw, isLabel, hl]
    · rw [hw] at hl
      simp at hl
      simp [e_impl_IsLabel, envL, h5, h1, hw, isLabel, hl]
  · have h2 : ¬ ((s.size : Nat) : Int) = 1 := by omega
    simp [e_impl_IsLabel, h2, h1, isLabel]

theorem ok_spec_IsLabel : PureOK Try.prog n_spec_IsLabel (T1 isLabel) := pureT1 (E1 ok_spec_l11Label) mixed hb_spec_IsLabel fun s => by
  by_cases h1 : s.size = 1
  · have h5 : aIndexStr (sv s) (iv 0) = some (bt (byte0 s)) := by
      rw [idx_str, h1, one_byte h1]
      rfl
    simp [e_spec_IsLabel, envL, h5, h1, isLabel]
  · have h2 : ¬ ((s.size : Nat) : Int) = 1 := by omega
    simp [e_spec_IsLabel, h2, h1, isLabel]

def okSym (s : Symbol) : Bool := isLabel s.label && validBox s.box
def validSymbols (l : List Symbol) : Bool := decide (l.length ≤ 8) && l.all okSym
theorem ok_impl_ValidSymbols_1 : PureOK Try.prog n_impl_ValidSymbols_1 (T1 fun s : Symbol => !okSym s) := pureT1 (E2 ok_impl_IsLabel ok_impl_ValidBox) mixed hb_impl_ValidSymbols_1 fun s => by
  simp [e_impl_ValidSymbols_1, envL, aBox, aLoad, cut, okSym]

def cmpI (a b : Int) : Int := bif decide (a < b) then -1 else bif decide (b < a) then 1 else 0
theorem ok_cmp_isNaN_int64 : PureOK Try.prog n_cmp_isNaN_int64 (T1 fun _ : Int => false) := pureT1 E0 mixed hb_cmp_isNaN_int64 fun a => by
  simp [e_cmp_isNaN_int64]

theorem ok_cmp_Compare_int64 : PureOK Try.prog n_cmp_Compare_int64 (T2 cmpI) := pureT2 (E1 ok_cmp_isNaN_int64) mixed hb_cmp_Compare_int64 fun a b => by
  by_cases w1 : a < b <;> by_cases w2 : b < a <;> simp [e_cmp_Compare_int64, envL, cmpI, w1, w2]

def s0_cmp_Or_int (vals_ : Sl Int) : Int → Option (Sum Int (Sum Unit Int)) := fun w3 =>
  bif decide (w3 < (((vals_.getD []).length : Nat) : Int)) then
    obind (getI (vals_.getD []) w3) fun a13 =>
    bif !decide (a13 = 0) then
      some (.inr (.inr a13))
    else
      some (.inl (wr (w3 + 1)))
  else
    some (.inr (.inl ()))
def t_cmp_Or_int (vals_ : Sl Int) : Option Int :=
  obind (loopT (s0_cmp_Or_int vals_) 0) fun qq22 => match qq22 with
  | (.inl _) =>
      some 0
  | (.inr q10) =>
      some q10

theorem tl0_cmp_Or_int (env : Nat → Contract) {B : Base}  (vals_ : Sl Int)  {st : Int} {tm : TM} {h : Heap} (R : (fun (st : Int) tm h1 => match st with | w3 => tm = [Sl.enc vals_, und, AV.top, iv 0, und, AV.top, Sl.enc vals_, iv (((vals_.getD []).length : Nat) : Int), iv w3, AV.top, AV.top, AV.top, AV.top, AV.top, AV.top, AV.top, AV.top, und] ∧ Hold B h1 []) st tm h) : Sim (loopP hm0_cmp_Or_int xm0_cmp_Or_int (lb0_cmp_Or_int env) tm h) (loopT (s0_cmp_Or_int vals_) st) (fun (q : Sum Unit Int) (r : Res) => match q with | .inl _ => ∃ (z6 : AV) (z7 : AV) (h4 : Heap), r = (.exit 0, [Sl.enc vals_, und, z6, iv 0, und, z7, Sl.enc vals_, iv (((vals_.getD []).length : Nat) : Int), AV.top, AV.top, AV.top, AV.top, AV.top, AV.top, AV.top, AV.top, AV.top, und], h4) ∧ Hold B h4 [] | .inr q10 => ∃ (q11 : Int) (h8 : Heap), r = (.ret, [Sl.enc vals_, und, iv q10, iv 0, und, iv q11, Sl.enc vals_, iv (((vals_.getD []).length : Nat) : Int), AV.top, AV.top, AV.top, AV.top, AV.top, AV.top, AV.top, AV.top, AV.top, und], h8) ∧ Hold B h8 []) := by
  refine loop_sim (Rel := fun (st : Int) tm h1 => match st with | w3 => tm = [Sl.enc vals_, und, AV.top, iv 0, und, AV.top, Sl.enc vals_, iv (((vals_.getD []).length : Nat) : Int), iv w3, AV.top, AV.top, AV.top, AV.top, AV.top, AV.top, AV.top, AV.top, und] ∧ Hold B h1 []) (fun w3 tm h1 R => ?_) R
  obtain ⟨rfl, O2⟩ := R
  rw [e_lb0_cmp_Or_int]
  unfold s0_cmp_Or_int
  dsimp only
  refine sim_let (v := bv (decide (w3 < (((vals_.getD []).length : Nat) : Int)))) (aBin_lss _ _) ?_
  refine sim_cond (fun c12 => ?_) (fun c12 => ?_)
  · refine sim_get (Tab.enc h1 vals_) (fun m14 a13 hi15 hm16 => ?_)
    refine sim_let (v := iv a13) ((Tab.enc h1 vals_).ld hm16 false 1 0) ?_
    refine sim_let (v := bv (!decide (a13 = 0))) (aCmp_ne _ _) ?_
    refine sim_cond (fun c17 => ?_) (fun c17 => ?_)
    · exact sim_ret ⟨nofun, _, _, rfl, O2⟩
    · refine sim_let (v := iv (wr (w3 + 1))) (aBin_add _ _) ?_
      exact sim_ret ⟨rfl, rfl, O2⟩
  · exact sim_ret ⟨nofun, _, _, _, rfl, O2⟩
theorem ts_cmp_Or_int (env : Nat → Contract)  (vals_ : Sl Int) : Sim (denFn Try.prog env n_cmp_Or_int [Sl.enc vals_] []) (t_cmp_Or_int vals_) fun c p => release p.2 depth p.1 = some ((fun c : Int => enc c) c) := by
  have O := Hold.nil []
  generalize hB : (⟨[], []⟩ : Base) = B at O
  clear hB
  rw [e_cmp_Or_int]
  unfold t_cmp_Or_int
  refine sim_let (v := iv (((vals_.getD []).length : Nat) : Int)) (Tab.enc [] vals_).len ?_
  refine sim_bind ((tl0_cmp_Or_int env vals_) ⟨rfl, O⟩) (fun qq22 r hq => ?_)
  rcases qq22 with _ | q10
  · obtain ⟨z6, z7, h4, rfl, O5⟩ := hq
    rw [e_lk0x0_cmp_Or_int]
    exact sim_ret (release_plain (by rfl) _)
  · obtain ⟨q11, h8, rfl, O9⟩ := hq
    rw [e_lk0r_cmp_Or_int]
    exact sim_ret (release_plain (by rfl) _)
theorem tt_cmp_Or_int : PureOK Try.prog n_cmp_Or_int (C1 (fun c : Int => enc c) t_cmp_Or_int) := pureC1 E0 mixed hb_cmp_Or_int fun vals_ => ts_cmp_Or_int _  vals_

def t_laws_szSymbol (a_ : Symbol) (left_ : Int) : Option Int :=
  bif decide ((wr (left_ - (a_.label.size : Int))) < 0) then
    some (-1)
  else
    some (wr (left_ - (a_.label.size : Int)))

theorem ts_laws_szSymbol (env : Nat → Contract)  (a_ : Symbol) (left_ : Int) : Sim (denFn Try.prog env n_laws_szSymbol [AV.agg [sv a_.label, iv a_.box.x1, iv a_.box.y1, iv a_.box.x2, iv a_.box.y2], iv left_] []) (t_laws_szSymbol a_ left_) fun c p => release p.2 depth p.1 = some ((fun c : Int => enc c) c) := by
  have O := Hold.nil []
  generalize hB : (⟨[], []⟩ : Base) = B at O
  clear hB
  rw [e_laws_szSymbol]
  unfold t_laws_szSymbol
  refine sim_box O (cs := [sv a_.label, iv a_.box.x1, iv a_.box.y1, iv a_.box.x2, iv a_.box.y2]) (by first | rfl | simp) (fun o1 h2 O3 => ?_)
  replace O3 : Hold B h2 [(AV.ptr o1 1 0 0, .pt 5 [sv a_.label, iv a_.box.x1, iv a_.box.y1, iv a_.box.x2, iv a_.box.y2])] := O3
  refine sim_let (v := AV.ptr o1 1 0 0) rfl ?_
  refine sim_let (v := sv a_.label) (O3.ld 0 rfl false 1 0) ?_
  refine sim_let (v := iv (a_.label.size : Int)) rfl ?_
  refine sim_let (v := iv (wr (left_ - (a_.label.size : Int)))) (aBin_sub _ _) ?_
  refine sim_let (v := bv (decide ((wr (left_ - (a_.label.size : Int))) < 0))) (aBin_lss _ _) ?_
  refine sim_cond (fun c5 => ?_) (fun c5 => ?_)
  · exact sim_ret (release_plain (by rfl) _)
  · exact sim_ret (release_plain (by rfl) _)
theorem tt_laws_szSymbol : PureOK Try.prog n_laws_szSymbol (C2 (fun c : Int => enc c) t_laws_szSymbol) := pureC2 E0 mixed hb_laws_szSymbol fun a_ left_ => ts_laws_szSymbol _  a_ left_

def s0_laws_szSymbolS (a_ : Sl Symbol) : (Int × Int) → Option (Sum (Int × Int) (Sum Int Int)) := fun (w4, w5) =>
  bif decide (w5 < (((a_.getD []).length : Nat) : Int)) then
    obind (getI (a_.getD []) w5) fun a17 =>
    obind (t_laws_szSymbol a17 w4) fun c21 =>
    bif decide (c21 < 0) then
      some (.inr (.inr (-1)))
    else
      some (.inl (c21, wr (w5 + 1)))
  else
    some (.inr (.inl w4))
def t_laws_szSymbolS (a_ : Sl Symbol) (left_ : Int) : Option Int :=
  bif decide ((wr (left_ - (((a_.getD []).length : Nat) : Int))) < 0) then
    some (-1)
  else
    obind (loopT (s0_laws_szSymbolS a_) (wr (left_ - (((a_.getD []).length : Nat) : Int)), 0)) fun qq27 => match qq27 with
    | (.inl q8) =>
        some q8
    | (.inr q14) =>
        some q14

theorem tl0_laws_szSymbolS (env : Nat → Contract) {B : Base} (he_laws_szSymbol : env n_laws_szSymbol = .pure (C2 (fun c : Int => enc c) t_laws_szSymbol)) (a_ : Sl Symbol) (left_ : Int)  {st : Int × Int} {tm : TM} {h : Heap} (R : (fun (st : Int × Int) tm h2 => match st with | (w4, w5) => tm = [Sl.enc a_, iv w4, und, und, AV.top, iv w5, iv left_, Sl.enc a_, iv (((a_.getD []).length : Nat) : Int), iv (wr (left_ - (((a_.getD []).length : Nat) : Int))), iv (wr (left_ - (((a_.getD []).length : Nat) : Int))), bv (decide ((wr (left_ - (((a_.getD []).length : Nat) : Int))) < 0)), AV.top, AV.top, AV.top, AV.top, AV.top, AV.top, AV.top, AV.top, AV.top, AV.top, AV.top, AV.top, AV.top, AV.top, und] ∧ Hold B h2 []) st tm h) : Sim (loopP hm0_laws_szSymbolS xm0_laws_szSymbolS (lb0_laws_szSymbolS env) tm h) (loopT (s0_laws_szSymbolS a_) st) (fun (q : Sum Int Int) (r : Res) => match q with | .inl q8 => ∃ (q10 : Int) (z9 : AV) (h6 : Heap), r = (.exit 0, [Sl.enc a_, iv q8, und, und, z9, iv q10, iv left_, Sl.enc a_, iv (((a_.getD []).length : Nat) : Int), iv (wr (left_ - (((a_.getD []).length : Nat) : Int))), iv (wr (left_ - (((a_.getD []).length : Nat) : Int))), bv (decide ((wr (left_ - (((a_.getD []).length : Nat) : Int))) < 0)), AV.top, AV.top, AV.top, AV.top, AV.top, AV.top, AV.top, AV.top, AV.top, AV.top, AV.top, AV.top, AV.top, AV.top, und], h6) ∧ Hold B h6 [] | .inr q14 => ∃ (q13 : Int) (q15 : Int) (h11 : Heap), r = (.ret, [Sl.enc a_, iv q13, und, und, iv q14, iv q15, iv left_, Sl.enc a_, iv (((a_.getD []).length : Nat) : Int), iv (wr (left_ - (((a_.getD []).length : Nat) : Int))), iv (wr (left_ - (((a_.getD []).length : Nat) : Int))), bv (decide ((wr (left_ - (((a_.getD []).length : Nat) : Int))) < 0)), AV.top, AV.top, AV.top, AV.top, AV.top, AV.top, AV.top, AV.top, AV.top, AV.top, AV.top, AV.top, AV.top, AV.top, und], h11) ∧ Hold B h11 []) := by
  refine loop_sim (Rel := fun (st : Int × Int) tm h2 => match st with | (w4, w5) => tm = [Sl.enc a_, iv w4, und, und, AV.top, iv w5, iv left_, Sl.enc a_, iv (((a_.getD []).length : Nat) : Int), iv (wr (left_ - (((a_.getD []).length : Nat) : Int))), iv (wr (left_ - (((a_.getD []).length : Nat) : Int))), bv (decide ((wr (left_ - (((a_.getD []).length : Nat) : Int))) < 0)), AV.top, AV.top, AV.top, AV.top, AV.top, AV.top, AV.top, AV.top, AV.top, AV.top, AV.top, AV.top, AV.top, AV.top, und] ∧ Hold B h2 []) (fun st tm h2 R => ?_) R
  obtain ⟨w4, w5⟩ := st
  obtain ⟨rfl, O3⟩ := R
  rw [e_lb0_laws_szSymbolS]
  unfold s0_laws_szSymbolS
  dsimp only
  refine sim_let (v := iv (((a_.getD []).length : Nat) : Int)) (Tab.enc h2 a_).len ?_
  refine sim_let (v := bv (decide (w5 < (((a_.getD []).length : Nat) : Int)))) (aBin_lss _ _) ?_
  refine sim_cond (fun c16 => ?_) (fun c16 => ?_)
  · refine sim_get (Tab.enc h2 a_) (fun m18 a17 hi19 hm20 => ?_)
    refine sim_let (v := AV.agg [sv a17.label, iv a17.box.x1, iv a17.box.y1, iv a17.box.x2, iv a17.box.y2]) ((Tab.enc h2 a_).ld hm20 true 5 0) ?_
    refine sim_call2 he_laws_szSymbol (snapD_nr _ a17 rfl) (snapD_int _ _) (fun c21 => ?_)
    refine sim_let2 (hand_plain (by rfl) _ _) ?_
    refine sim_let (v := bv (decide (c21 < 0))) (aBin_lss _ _) ?_
    refine sim_cond (fun c22 => ?_) (fun c22 => ?_)
    · exact sim_ret ⟨nofun, _, _, _, rfl, O3⟩
    · refine sim_let (v := iv (wr (w5 + 1))) (aBin_add _ _) ?_
      exact sim_ret ⟨rfl, rfl, O3⟩
  · exact sim_ret ⟨nofun, _, _, _, rfl, O3⟩
theorem ts_laws_szSymbolS (env : Nat → Contract) (he_laws_szSymbol : env n_laws_szSymbol = .pure (C2 (fun c : Int => enc c) t_laws_szSymbol)) (a_ : Sl Symbol) (left_ : Int) : Sim (denFn Try.prog env n_laws_szSymbolS [Sl.enc a_, iv left_] []) (t_laws_szSymbolS a_ left_) fun c p => release p.2 depth p.1 = some ((fun c : Int => enc c) c) := by
  have O := Hold.nil []
  generalize hB : (⟨[], []⟩ : Base) = B at O
  clear hB
  rw [e_laws_szSymbolS]
  unfold t_laws_szSymbolS
  refine sim_let (v := iv (((a_.getD []).length : Nat) : Int)) (Tab.enc [] a_).len ?_
  refine sim_let (v := iv (wr (left_ - (((a_.getD []).length : Nat) : Int)))) (aBin_sub _ _) ?_
  refine sim_let (v := bv (decide ((wr (left_ - (((a_.getD []).length : Nat) : Int))) < 0))) (aBin_lss _ _) ?_
  refine sim_cond (fun c1 => ?_) (fun c1 => ?_)
  · exact sim_ret (release_plain (by rfl) _)
  · refine sim_bind ((tl0_laws_szSymbolS env he_laws_szSymbol a_ left_) ⟨rfl, O⟩) (fun qq27 r hq => ?_)
    rcases qq27 with q8 | q14
    · obtain ⟨q10, z9, h6, rfl, O7⟩ := hq
      rw [e_lk0x0_laws_szSymbolS]
      exact sim_ret (release_plain (by rfl) _)
    · obtain ⟨q13, q15, h11, rfl, O12⟩ := hq
      rw [e_lk0r_laws_szSymbolS]
      exact sim_ret (release_plain (by rfl) _)
theorem tt_laws_szSymbolS : PureOK Try.prog n_laws_szSymbolS (C2 (fun c : Int => enc c) t_laws_szSymbolS) := pureC2 (Econs tt_laws_szSymbol E0) mixed hb_laws_szSymbolS fun a_ left_ => ts_laws_szSymbolS _ (by simp [envL]) a_ left_

def s0_laws_toSymbolS (a_ : Sl Symbol) : ((Sl Symbol) × Int) → Option (Sum ((Sl Symbol) × Int) (Sl Symbol)) := fun (w6, w9) =>
  bif decide (w9 < (((a_.getD []).length : Nat) : Int)) then
    obind (getI (a_.getD []) w9) fun a15 =>
    obind (some ((fun b : Symbol => b) a15)) fun c19 =>
    obind (getI (w6.getD []) w9) fun a20 =>
    some (.inl ((setS w6 w9 c19), wr (w9 + 1)))
  else
    some (.inr w6)
def t_laws_toSymbolS (a_ : Sl Symbol) : Option (Sl Symbol) :=
  obind (makeO (⟨(⟨#[]⟩ : ByteArray), ⟨0, 0, 0, 0⟩⟩ : Symbol) (((a_.getD []).length : Nat) : Int)) fun l5 =>
  obind (loopT (s0_laws_toSymbolS a_) ((some l5), 0)) fun q12 =>
  some q12

theorem tl0_laws_toSymbolS (env : Nat → Contract) {B : Base} (he_laws_toSymbol : env n_laws_toSymbol = .pure (T1 (fun b : Symbol => b))) (a_ : Sl Symbol) (x1 : AV)  {st : (Sl Symbol) × Int} {tm : TM} {h : Heap} (R : (fun (st : (Sl Symbol) × Int) tm h7 => match st with | (w6, w9) => tm = [Sl.enc a_, und, nilS, x1, iv w9, Sl.enc a_, iv (((a_.getD []).length : Nat) : Int), x1, AV.top, AV.top, AV.top, AV.top, AV.top, AV.top, AV.top, AV.top, AV.top, AV.top, AV.top, AV.top, AV.top, AV.top, und] ∧ Hold B h7 [(x1, obS (w6 : Sl Symbol))]) st tm h) : Sim (loopP hm0_laws_toSymbolS xm0_laws_toSymbolS (lb0_laws_toSymbolS env) tm h) (loopT (s0_laws_toSymbolS a_) st) (fun (q : Sl Symbol) (r : Res) => match q with | q12 => ∃ (q13 : Int) (h10 : Heap), r = (.exit 0, [Sl.enc a_, und, nilS, x1, iv q13, Sl.enc a_, iv (((a_.getD []).length : Nat) : Int), x1, AV.top, AV.top, AV.top, AV.top, AV.top, AV.top, AV.top, AV.top, AV.top, AV.top, AV.top, AV.top, AV.top, AV.top, und], h10) ∧ Hold B h10 [(x1, obS (q12 : Sl Symbol))]) := by
  refine loop_sim (Rel := fun (st : (Sl Symbol) × Int) tm h7 => match st with | (w6, w9) => tm = [Sl.enc a_, und, nilS, x1, iv w9, Sl.enc a_, iv (((a_.getD []).length : Nat) : Int), x1, AV.top, AV.top, AV.top, AV.top, AV.top, AV.top, AV.top, AV.top, AV.top, AV.top, AV.top, AV.top, AV.top, AV.top, und] ∧ Hold B h7 [(x1, obS (w6 : Sl Symbol))]) (fun st tm h7 R => ?_) R
  obtain ⟨w6, w9⟩ := st
  obtain ⟨rfl, O8⟩ := R
  rw [e_lb0_laws_toSymbolS]
  unfold s0_laws_toSymbolS
  dsimp only
  refine sim_let (v := iv (((a_.getD []).length : Nat) : Int)) (Tab.enc h7 a_).len ?_
  refine sim_let (v := bv (decide (w9 < (((a_.getD []).length : Nat) : Int)))) (aBin_lss _ _) ?_
  refine sim_cond (fun c14 => ?_) (fun c14 => ?_)
  · refine sim_get (Tab.enc h7 a_) (fun m16 a15 hi17 hm18 => ?_)
    refine sim_let (v := AV.agg [sv a15.label, iv a15.box.x1, iv a15.box.y1, iv a15.box.x2, iv a15.box.y2]) ((Tab.enc h7 a_).ld hm18 true 5 0) ?_
    refine sim_callV1 (t := (fun b : Symbol => b)) he_laws_toSymbol (snapD_nr _ a15 rfl) (fun c19 => ?_)
    refine sim_get (O8.tab (A := Symbol) (s := w6) 0 rfl) (fun m21 a20 hi22 hm23 => ?_)
    refine sim_set (A := Symbol) O8 0 c19 rfl hi22 hm23 rfl (by simp) (by first | rfl | simp) (by first | rfl | simp [splice]) (fun h24 O25 => ?_)
    replace O25 : Hold B h24 [(x1, obS ((setS w6 w9 c19) : Sl Symbol))] := O25
    refine sim_let (v := iv (wr (w9 + 1))) (aBin_add _ _) ?_
    exact sim_ret ⟨rfl, rfl, O25⟩
  · exact sim_ret ⟨nofun, _, _, rfl, O8⟩
theorem ts_laws_toSymbolS (env : Nat → Contract) (he_laws_toSymbol : env n_laws_toSymbol = .pure (T1 (fun b : Symbol => b))) (a_ : Sl Symbol) : Sim (denFn Try.prog env n_laws_toSymbolS [Sl.enc a_] []) (t_laws_toSymbolS a_) fun c p => release p.2 depth p.1 = some ((fun c : (Sl Symbol) => rS c) c) := by
  have O := Hold.nil []
  generalize hB : (⟨[], []⟩ : Base) = B at O
  clear hB
  rw [e_laws_toSymbolS]
  unfold t_laws_toSymbolS
  refine sim_let (v := iv (((a_.getD []).length : Nat) : Int)) (Tab.enc [] a_).len ?_
  refine sim_make (A := Symbol) O (⟨(⟨#[]⟩ : ByteArray), ⟨0, 0, 0, 0⟩⟩ : Symbol) rfl (by decide) (fun l5 x1 h2 O3 => ?_)
  replace O3 : Hold B h2 [(x1, obS ((some l5) : Sl Symbol))] := O3
  refine sim_bind ((tl0_laws_toSymbolS env he_laws_toSymbol a_ x1) ⟨rfl, O3⟩) (fun qq29 r hq => ?_)
  revert hq
  revert qq29
  intro q12 hq
  obtain ⟨q13, h10, rfl, O11⟩ := hq
  rw [e_lk0x0_laws_toSymbolS]
  exact sim_ret (O11.rel (A := Symbol) (s := q12) 0 rfl)
theorem tt_laws_toSymbolS : PureOK Try.prog n_laws_toSymbolS (C1 (fun c : (Sl Symbol) => rS c) t_laws_toSymbolS) := pureC1 (Econs ok_laws_toSymbol E0) mixed hb_laws_toSymbolS fun a_ => ts_laws_toSymbolS _ (by simp [envL]) a_

def s0_spec_l20Ok (list_ : Sl Symbol) : Int → Option (Sum Int (Sum Unit Bool)) := fun w3 =>
  bif decide (w3 < (((list_.getD []).length : Nat) : Int)) then
    obind (getI (list_.getD []) w3) fun a13 =>
    obind (some (isLabel a13.label)) fun c17 =>
    obind (bif !c17 then some false else (obind (getI (list_.getD []) w3) fun a19 => obind (some (validBox a19.box)) fun c23 => some (!c23))) fun c24 =>
    bif (bif !c17 then true else c24) then
      some (.inr (.inr false))
    else
      some (.inl (wr (w3 + 1)))
  else
    some (.inr (.inl ()))
def t_spec_l20Ok (list_ : Sl Symbol) : Option Bool :=
  obind (loopT (s0_spec_l20Ok list_) 0) fun qq30 => match qq30 with
  | (.inl _) =>
      some (decide ((((list_.getD []).length : Nat) : Int) ≤ 8))
  | (.inr q10) =>
      some q10

theorem tl0_spec_l20Ok (env : Nat → Contract) {B : Base} (he_spec_IsLabel : env n_spec_IsLabel = .pure (T1 isLabel)) (he_spec_l02Box : env n_spec_l02Box = .pure (T1 validBox)) (list_ : Sl Symbol)  {st : Int} {tm : TM} {h : Heap} (R : (fun (st : Int) tm h1 => match st with | w3 => tm = [Sl.enc list_, und, AV.top, iv w3, AV.top, AV.top, AV.top, AV.top, AV.top, AV.top, AV.top, AV.top, AV.top, AV.top, AV.top, AV.top, AV.top, AV.top, AV.top, AV.top, AV.top, AV.top, AV.top, AV.top, AV.top, AV.top, und, und, und] ∧ Hold B h1 []) st tm h) : Sim (loopP hm0_spec_l20Ok xm0_spec_l20Ok (lb0_spec_l20Ok env) tm h) (loopT (s0_spec_l20Ok list_) st) (fun (q : Sum Unit Bool) (r : Res) => match q with | .inl _ => ∃ (q7 : Int) (z6 : AV) (h4 : Heap), r = (.exit 0, [Sl.enc list_, und, z6, iv q7, AV.top, AV.top, AV.top, AV.top, AV.top, AV.top, AV.top, AV.top, AV.top, AV.top, AV.top, AV.top, AV.top, AV.top, AV.top, AV.top, AV.top, AV.top, AV.top, AV.top, AV.top, AV.top, und, und, und], h4) ∧ Hold B h4 [] | .inr q10 => ∃ (q11 : Int) (h8 : Heap), r = (.ret, [Sl.enc list_, und, bv q10, iv q11, AV.top, AV.top, AV.top, AV.top, AV.top, AV.top, AV.top, AV.top, AV.top, AV.top, AV.top, AV.top, AV.top, AV.top, AV.top, AV.top, AV.top, AV.top, AV.top, AV.top, AV.top, AV.top, und, und, und], h8) ∧ Hold B h8 []) := by
  refine loop_sim (Rel := fun (st : Int) tm h1 => match st with | w3 => tm = [Sl.enc list_, und, AV.top, iv w3, AV.top, AV.top, AV.top, AV.top, AV.top, AV.top, AV.top, AV.top, AV.top, AV.top, AV.top, AV.top, AV.top, AV.top, AV.top, AV.top, AV.top, AV.top, AV.top, AV.top, AV.top, AV.top, und, und, und] ∧ Hold B h1 []) (fun w3 tm h1 R => ?_) R
  obtain ⟨rfl, O2⟩ := R
  rw [e_lb0_spec_l20Ok]
  unfold s0_spec_l20Ok
  dsimp only
  refine sim_let (v := iv (((list_.getD []).length : Nat) : Int)) (Tab.enc h1 list_).len ?_
  refine sim_let (v := bv (decide (w3 < (((list_.getD []).length : Nat) : Int)))) (aBin_lss _ _) ?_
  refine sim_cond (fun c12 => ?_) (fun c12 => ?_)
  · refine sim_get (Tab.enc h1 list_) (fun m14 a13 hi15 hm16 => ?_)
    refine sim_let (v := elp (Sl.enc list_) m14 0) ((Tab.enc h1 list_).fld _ _ _) ?_
    refine sim_let (v := sv a13.label) ((Tab.enc h1 list_).ld hm16 false 1 0) ?_
    refine sim_callV1 (t := isLabel) he_spec_IsLabel (snapD_str _ _) (fun c17 => ?_)
    refine sim_let (v := bv (!c17)) (aUn_not _) ?_
    refine sim_guardF (e := bv) (fun hb18 => ?_) (fun c24 => ?_)
    · refine sim_get (Tab.enc h1 list_) (fun m20 a19 hi21 hm22 => ?_)
      refine sim_let (v := elp (Sl.enc list_) m20 1) ((Tab.enc h1 list_).fld _ _ _) ?_
      refine sim_let (v := AV.agg [iv a19.box.x1, iv a19.box.y1, iv a19.box.x2, iv a19.box.y2]) ((Tab.enc h1 list_).ld hm22 true 4 1) ?_
      refine sim_callV1 (t := validBox) he_spec_l02Box (snapD_nr _ a19.box rfl) (fun c23 => ?_)
      refine sim_let (v := bv (!c23)) (aUn_not _) ?_
      exact sim_ret rfl
    · refine sim_let (v := bv (bif !c17 then true else c24)) (pick_b' _ _ _) ?_
      refine sim_cond (fun c25 => ?_) (fun c25 => ?_)
      · exact sim_ret ⟨nofun, _, _, rfl, O2⟩
      · refine sim_let (v := iv (wr (w3 + 1))) (aBin_add _ _) ?_
        exact sim_ret ⟨rfl, rfl, O2⟩
  · exact sim_ret ⟨nofun, _, _, _, rfl, O2⟩
theorem ts_spec_l20Ok (env : Nat → Contract) (he_spec_IsLabel : env n_spec_IsLabel = .pure (T1 isLabel)) (he_spec_l02Box : env n_spec_l02Box = .pure (T1 validBox)) (list_ : Sl Symbol) : Sim (denFn Try.prog env n_spec_l20Ok [Sl.enc list_] []) (t_spec_l20Ok list_) fun c p => release p.2 depth p.1 = some ((fun c : Bool => enc c) c) := by
  have O := Hold.nil []
  generalize hB : (⟨[], []⟩ : Base) = B at O
  clear hB
  rw [e_spec_l20Ok]
  unfold t_spec_l20Ok
  refine sim_bind ((tl0_spec_l20Ok env he_spec_IsLabel he_spec_l02Box list_) ⟨rfl, O⟩) (fun qq30 r hq => ?_)
  rcases qq30 with _ | q10
  · obtain ⟨q7, z6, h4, rfl, O5⟩ := hq
    rw [e_lk0x0_spec_l20Ok]
    refine sim_let (v := iv (((list_.getD []).length : Nat) : Int)) (Tab.enc h4 list_).len ?_
    refine sim_let (v := bv (decide ((((list_.getD []).length : Nat) : Int) ≤ 8))) (aBin_leq _ _) ?_
    exact sim_ret (release_plain (by rfl) _)
  · obtain ⟨q11, h8, rfl, O9⟩ := hq
    rw [e_lk0r_spec_l20Ok]
    exact sim_ret (release_plain (by rfl) _)
theorem tt_spec_l20Ok : PureOK Try.prog n_spec_l20Ok (C1 (fun c : Bool => enc c) t_spec_l20Ok) := pureC1 (Econs ok_spec_IsLabel (Econs ok_spec_l02Box E0)) mixed hb_spec_l20Ok fun list_ => ts_spec_l20Ok _ (by simp [envL]) (by simp [envL]) list_

def s0_slices_IndexFunc_impl_Symbol_impl_Symbol (p_ : Symbol → Option Bool) (s_ : Sl Symbol) : Int → Option (Sum Int (Sum Unit Int)) := fun w3 =>
  bif decide (w3 < (((s_.getD []).length : Nat) : Int)) then
    obind (getI (s_.getD []) w3) fun a13 =>
    obind (p_ a13) fun c17 =>
    bif c17 then
      some (.inr (.inr w3))
    else
      some (.inl (wr (w3 + 1)))
  else
    some (.inr (.inl ()))
def t_slices_IndexFunc_impl_Symbol_impl_Symbol (p_ : Symbol → Option Bool) (s_ : Sl Symbol) : Option Int :=
  obind (loopT (s0_slices_IndexFunc_impl_Symbol_impl_Symbol p_ s_) 0) fun qq26 => match qq26 with
  | (.inl _) =>
      some (-1)
  | (.inr q10) =>
      some q10

theorem tl0_slices_IndexFunc_impl_Symbol_impl_Symbol (env : Nat → Contract) {B : Base} {K : Type} [Cod K] {g : Nat} {caps : K → List AV} {P : K → Symbol → Option Bool} (hp : ∀ k (a : Symbol) h, Sim (aCall (env g) (AV.agg (Row.cells a) :: caps k) h) (P k a) fun b r => r = (bv b, h))  (s_ : Sl Symbol) (f_ : K)  {st : Int} {tm : TM} {h : Heap} (R : (fun (st : Int) tm h1 => match st with | w3 => tm = [Sl.enc s_, AV.fn g (caps f_), und, und, AV.top, AV.top, Sl.enc s_, iv (((s_.getD []).length : Nat) : Int), iv w3, AV.top, AV.top, AV.top, AV.top, AV.top, AV.top, AV.top, AV.top, AV.top, AV.top] ∧ Hold B h1 []) st tm h) : Sim (loopP hm0_slices_IndexFunc_impl_Symbol_impl_Symbol xm0_slices_IndexFunc_impl_Symbol_impl_Symbol (lb0_slices_IndexFunc_impl_Symbol_impl_Symbol env) tm h) (loopT (s0_slices_IndexFunc_impl_Symbol_impl_Symbol (P f_) s_) st) (fun (q : Sum Unit Int) (r : Res) => match q with | .inl _ => ∃ (z6 : AV) (z7 : AV) (h4 : Heap), r = (.exit 0, [Sl.enc s_, AV.fn g (caps f_), und, und, z6, z7, Sl.enc s_, iv (((s_.getD []).length : Nat) : Int), AV.top, AV.top, AV.top, AV.top, AV.top, AV.top, AV.top, AV.top, AV.top, AV.top, AV.top], h4) ∧ Hold B h4 [] | .inr q10 => ∃ (q11 : Int) (h8 : Heap), r = (.ret, [Sl.enc s_, AV.fn g (caps f_), und, und, iv q10, iv q11, Sl.enc s_, iv (((s_.getD []).length : Nat) : Int), AV.top, AV.top, AV.top, AV.top, AV.top, AV.top, AV.top, AV.top, AV.top, AV.top, AV.top], h8) ∧ Hold B h8 []) := by
  refine loop_sim (Rel := fun (st : Int) tm h1 => match st with | w3 => tm = [Sl.enc s_, AV.fn g (caps f_), und, und, AV.top, AV.top, Sl.enc s_, iv (((s_.getD []).length : Nat) : Int), iv w3, AV.top, AV.top, AV.top, AV.top, AV.top, AV.top, AV.top, AV.top, AV.top, AV.top] ∧ Hold B h1 []) (fun w3 tm h1 R => ?_) R
  obtain ⟨rfl, O2⟩ := R
  rw [e_lb0_slices_IndexFunc_impl_Symbol_impl_Symbol]
  unfold s0_slices_IndexFunc_impl_Symbol_impl_Symbol
  dsimp only
  refine sim_let (v := bv (decide (w3 < (((s_.getD []).length : Nat) : Int)))) (aBin_lss _ _) ?_
  refine sim_cond (fun c12 => ?_) (fun c12 => ?_)
  · refine sim_get (Tab.enc h1 s_) (fun m14 a13 hi15 hm16 => ?_)
    refine sim_let (v := AV.agg [sv a13.label, iv a13.box.x1, iv a13.box.y1, iv a13.box.x2, iv a13.box.y2]) ((Tab.enc h1 s_).ld hm16 true 5 0) ?_
    refine sim_bind2 (hp f_ a13 _) (fun c17 v18 hh19 hq20 => ?_)
    cases hq20
    refine sim_cond (fun c21 => ?_) (fun c21 => ?_)
    · exact sim_ret ⟨nofun, _, _, rfl, O2⟩
    · refine sim_let (v := iv (wr (w3 + 1))) (aBin_add _ _) ?_
      exact sim_ret ⟨rfl, rfl, O2⟩
  · exact sim_ret ⟨nofun, _, _, _, rfl, O2⟩
theorem ts_slices_IndexFunc_impl_Symbol_impl_Symbol (env : Nat → Contract) {K : Type} [Cod K] {g : Nat} {caps : K → List AV} {P : K → Symbol → Option Bool} (hp : ∀ k (a : Symbol) h, Sim (aCall (env g) (AV.agg (Row.cells a) :: caps k) h) (P k a) fun b r => r = (bv b, h))  (s_ : Sl Symbol) (f_ : K) : Sim (denFn Try.prog env n_slices_IndexFunc_impl_Symbol_impl_Symbol [Sl.enc s_, AV.fn g (caps f_)] []) (t_slices_IndexFunc_impl_Symbol_impl_Symbol (P f_) s_) fun c p => release p.2 depth p.1 = some ((fun c : Int => enc c) c) := by
  have O := Hold.nil []
  generalize hB : (⟨[], []⟩ : Base) = B at O
  clear hB
  rw [e_slices_IndexFunc_impl_Symbol_impl_Symbol]
  unfold t_slices_IndexFunc_impl_Symbol_impl_Symbol
  refine sim_let (v := iv (((s_.getD []).length : Nat) : Int)) (Tab.enc [] s_).len ?_
  refine sim_bind ((tl0_slices_IndexFunc_impl_Symbol_impl_Symbol env hp s_ f_) ⟨rfl, O⟩) (fun qq26 r hq => ?_)
  rcases qq26 with _ | q10
  · obtain ⟨z6, z7, h4, rfl, O5⟩ := hq
    rw [e_lk0x0_slices_IndexFunc_impl_Symbol_impl_Symbol]
    exact sim_ret (release_plain (by rfl) _)
  · obtain ⟨q11, h8, rfl, O9⟩ := hq
    rw [e_lk0r_slices_IndexFunc_impl_Symbol_impl_Symbol]
    exact sim_ret (release_plain (by rfl) _)
theorem tt0_slices_IndexFunc_impl_Symbol_impl_Symbol {g : Nat} {t : Symbol → Option Bool} (hg : PureOK Try.prog g (C1 (fun c : Bool => enc c) t)) : PureOK Try.prog n_slices_IndexFunc_impl_Symbol_impl_Symbol (C2 (fun c : Int => enc c) (fun (q : Sl Symbol) (k : Clo0 g) => t_slices_IndexFunc_impl_Symbol_impl_Symbol ((fun _ : Clo0 g => t) k) q)) := pureC2 (Econs hg E0) mixed hb_slices_IndexFunc_impl_Symbol_impl_Symbol fun q k => ts_slices_IndexFunc_impl_Symbol_impl_Symbol _ (caps := fun _ => []) (P := (fun _ : Clo0 g => t)) (fun k a h => callP0 (by simp [envL]) (snapD_nr _ a rfl)) q k
theorem tt1_slices_IndexFunc_impl_Symbol_impl_Symbol {g : Nat} {X : Type} [Row X] {tp : Symbol → Pt X → Option Bool} (hg : PureOK Try.prog g (C2 (fun c : Bool => enc c) tp)) : PureOK Try.prog n_slices_IndexFunc_impl_Symbol_impl_Symbol (C2 (fun c : Int => enc c) (fun (q : Sl Symbol) (k : Clo g (Pt X)) => t_slices_IndexFunc_impl_Symbol_impl_Symbol ((fun (k : Clo g (Pt X)) a => tp a k.val) k) q)) := pureC2 (Econs hg E0) mixed hb_slices_IndexFunc_impl_Symbol_impl_Symbol fun q k => ts_slices_IndexFunc_impl_Symbol_impl_Symbol _ (caps := fun k : Clo g (Pt X) => [enc k.val]) (P := (fun (k : Clo g (Pt X)) a => tp a k.val)) (fun k a h => callP1 (by simp [envL]) (snapD_nr _ a rfl) (snapD_fptr _ _ _ _ rfl)) q k

def t_slices_ContainsFunc_impl_Symbol_impl_Symbol (p_ : Symbol → Option Bool) (s_ : Sl Symbol) : Option Bool :=
  obind (t_slices_IndexFunc_impl_Symbol_impl_Symbol p_ s_) fun c1 =>
  some (decide (0 ≤ c1))

theorem ts_slices_ContainsFunc_impl_Symbol_impl_Symbol (env : Nat → Contract) {K : Type} [Cod K] {g : Nat} {caps : K → List AV} {P : K → Symbol → Option Bool} (hs : ∀ k h, snapD h (AV.fn g (caps k)) = some k) (he_slices_IndexFunc_impl_Symbol_impl_Symbol : env n_slices_IndexFunc_impl_Symbol_impl_Symbol = .pure (C2 (fun c : Int => enc c) (fun (q : Sl Symbol) (k : K) => t_slices_IndexFunc_impl_Symbol_impl_Symbol (P k) q))) (s_ : Sl Symbol) (f_ : K) : Sim (denFn Try.prog env n_slices_ContainsFunc_impl_Symbol_impl_Symbol [Sl.enc s_, AV.fn g (caps f_)] []) (t_slices_ContainsFunc_impl_Symbol_impl_Symbol (P f_) s_) fun c p => release p.2 depth p.1 = some ((fun c : Bool => enc c) c) := by
  have O := Hold.nil []
  generalize hB : (⟨[], []⟩ : Base) = B at O
  clear hB
  rw [e_slices_ContainsFunc_impl_Symbol_impl_Symbol]
  unfold t_slices_ContainsFunc_impl_Symbol_impl_Symbol
  refine sim_call2 (t := fun (q : Sl Symbol) (k : K) => t_slices_IndexFunc_impl_Symbol_impl_Symbol (P k) q) he_slices_IndexFunc_impl_Symbol_impl_Symbol (snapD_enc _ _) (hs f_ _) (fun c1 => ?_)
  refine sim_let2 (hand_plain (by rfl) _ _) ?_
  refine sim_let (v := bv (decide (0 ≤ c1))) (aBin_geq _ _) ?_
  exact sim_ret (release_plain (by rfl) _)
theorem tt0_slices_ContainsFunc_impl_Symbol_impl_Symbol {g : Nat} {t : Symbol → Option Bool} (hg : PureOK Try.prog g (C1 (fun c : Bool => enc c) t)) : PureOK Try.prog n_slices_ContainsFunc_impl_Symbol_impl_Symbol (C2 (fun c : Bool => enc c) (fun (q : Sl Symbol) (k : Clo0 g) => t_slices_ContainsFunc_impl_Symbol_impl_Symbol ((fun _ : Clo0 g => t) k) q)) := pureC2 (Econs (tt0_slices_IndexFunc_impl_Symbol_impl_Symbol hg) E0) mixed hb_slices_ContainsFunc_impl_Symbol_impl_Symbol fun q k => ts_slices_ContainsFunc_impl_Symbol_impl_Symbol _ (caps := fun _ => []) (P := (fun _ : Clo0 g => t)) (fun k h => snapD_clo0 h g) (by simp [envL]) q k
theorem tt1_slices_ContainsFunc_impl_Symbol_impl_Symbol {g : Nat} {X : Type} [Row X] {tp : Symbol → Pt X → Option Bool} (hg : PureOK Try.prog g (C2 (fun c : Bool => enc c) tp)) : PureOK Try.prog n_slices_ContainsFunc_impl_Symbol_impl_Symbol (C2 (fun c : Bool => enc c) (fun (q : Sl Symbol) (k : Clo g (Pt X)) => t_slices_ContainsFunc_impl_Symbol_impl_Symbol ((fun (k : Clo g (Pt X)) a => tp a k.val) k) q)) := pureC2 (Econs (tt1_slices_IndexFunc_impl_Symbol_impl_Symbol hg) E0) mixed hb_slices_ContainsFunc_impl_Symbol_impl_Symbol fun q k => ts_slices_ContainsFunc_impl_Symbol_impl_Symbol _ (caps := fun k : Clo g (Pt X) => [enc k.val]) (P := (fun (k : Clo g (Pt X)) a => tp a k.val)) (fun k h => snapD_cloE h k) (by simp [envL]) q k

def t_impl_ValidSymbols (list_ : Sl Symbol) : Option Bool :=
  obind (bif decide ((((list_.getD []).length : Nat) : Int) ≤ 8) then (obind (t_slices_ContainsFunc_impl_Symbol_impl_Symbol (fun a => some ((fun s : Symbol => !okSym s) a)) list_) fun c2 => some (!c2)) else some false) fun c3 =>
  some (bif decide ((((list_.getD []).length : Nat) : Int) ≤ 8) then c3 else false)

theorem ts_impl_ValidSymbols (env : Nat → Contract) (he_slices_ContainsFunc_impl_Symbol_impl_Symbol : env n_slices_ContainsFunc_impl_Symbol_impl_Symbol = .pure (C2 (fun c : Bool => enc c) (fun (q : Sl Symbol) (k : Clo0 n_impl_ValidSymbols_1) => t_slices_ContainsFunc_impl_Symbol_impl_Symbol ((fun _ : Clo0 n_impl_ValidSymbols_1 => (fun a => some ((fun s : Symbol => !okSym s) a))) k) q))) (list_ : Sl Symbol) : Sim (denFn Try.prog env n_impl_ValidSymbols [Sl.enc list_] []) (t_impl_ValidSymbols list_) fun c p => release p.2 depth p.1 = some ((fun c : Bool => enc c) c) := by
  have O := Hold.nil []
  generalize hB : (⟨[], []⟩ : Base) = B at O
  clear hB
  rw [e_impl_ValidSymbols]
  unfold t_impl_ValidSymbols
  refine sim_let (v := iv (((list_.getD []).length : Nat) : Int)) (Tab.enc [] list_).len ?_
  refine sim_let (v := bv (decide ((((list_.getD []).length : Nat) : Int) ≤ 8))) (aBin_leq _ _) ?_
  refine sim_guardT (e := bv) (fun hb1 => ?_) (fun c3 => ?_)
  · refine sim_call2 (t := fun (q : Sl Symbol) (k : Clo0 n_impl_ValidSymbols_1) => t_slices_ContainsFunc_impl_Symbol_impl_Symbol ((fun _ : Clo0 n_impl_ValidSymbols_1 => (fun a => some ((fun s : Symbol => !okSym s) a))) k) q) he_slices_ContainsFunc_impl_Symbol_impl_Symbol (snapD_enc _ _) (snapD_clo0 _ _) (fun c2 => ?_)
    refine sim_let2 (hand_plain (by rfl) _ _) ?_
    refine sim_let (v := bv (!c2)) (aUn_not _) ?_
    exact sim_ret rfl
  · refine sim_let (v := bv (bif decide ((((list_.getD []).length : Nat) : Int) ≤ 8) then c3 else false)) (pick_b _ _ _) ?_
    exact sim_ret (release_plain (by rfl) _)
theorem tt_impl_ValidSymbols : PureOK Try.prog n_impl_ValidSymbols (C1 (fun c : Bool => enc c) t_impl_ValidSymbols) := pureC1 (Econs (tt0_slices_ContainsFunc_impl_Symbol_impl_Symbol (C1_T1 ok_impl_ValidSymbols_1)) E0) mixed hb_impl_ValidSymbols fun list_ => ts_impl_ValidSymbols _ (by simp [envL]) list_

def s0_laws_eqSymbolS (a_ : Sl Symbol) (b_ : Sl Symbol) : Int → Option (Sum Int (Sum Unit Bool)) := fun w4 =>
  bif decide (w4 < (((a_.getD []).length : Nat) : Int)) then
    obind (getI (a_.getD []) w4) fun a14 =>
    obind (getI (b_.getD []) w4) fun a18 =>
    obind (some ((fun a b : Symbol => decide (a = b)) a14 a18)) fun c22 =>
    bif !c22 then
      some (.inr (.inr false))
    else
      some (.inl (wr (w4 + 1)))
  else
    some (.inr (.inl ()))
def t_laws_eqSymbolS (a_ : Sl Symbol) (b_ : Sl Symbol) : Option Bool :=
  bif !decide ((((a_.getD []).length : Nat) : Int) = (((b_.getD []).length : Nat) : Int)) then
    some false
  else
    obind (loopT (s0_laws_eqSymbolS a_ b_) 0) fun qq28 => match qq28 with
    | (.inl _) =>
        some true
    | (.inr q11) =>
        some q11

theorem tl0_laws_eqSymbolS (env : Nat → Contract) {B : Base} (he_laws_eqSymbol : env n_laws_eqSymbol = .pure (T2 (fun a b : Symbol => decide (a = b)))) (a_ : Sl Symbol) (b_ : Sl Symbol)  {st : Int} {tm : TM} {h : Heap} (R : (fun (st : Int) tm h2 => match st with | w4 => tm = [Sl.enc a_, Sl.enc b_, und, und, AV.top, iv w4, Sl.enc a_, iv (((a_.getD []).length : Nat) : Int), Sl.enc b_, iv (((b_.getD []).length : Nat) : Int), bv (!decide ((((a_.getD []).length : Nat) : Int) = (((b_.getD []).length : Nat) : Int))), AV.top, AV.top, AV.top, AV.top, AV.top, AV.top, AV.top, AV.top, AV.top, AV.top, AV.top, AV.top, AV.top, AV.top, AV.top, AV.top] ∧ Hold B h2 []) st tm h) : Sim (loopP hm0_laws_eqSymbolS xm0_laws_eqSymbolS (lb0_laws_eqSymbolS env) tm h) (loopT (s0_laws_eqSymbolS a_ b_) st) (fun (q : Sum Unit Bool) (r : Res) => match q with | .inl _ => ∃ (q8 : Int) (z7 : AV) (h5 : Heap), r = (.exit 0, [Sl.enc a_, Sl.enc b_, und, und, z7, iv q8, Sl.enc a_, iv (((a_.getD []).length : Nat) : Int), Sl.enc b_, iv (((b_.getD []).length : Nat) : Int), bv (!decide ((((a_.getD []).length : Nat) : Int) = (((b_.getD []).length : Nat) : Int))), AV.top, AV.top, AV.top, AV.top, AV.top, AV.top, AV.top, AV.top, AV.top, AV.top, AV.top, AV.top, AV.top, AV.top, AV.top, AV.top], h5) ∧ Hold B h5 [] | .inr q11 => ∃ (q12 : Int) (h9 : Heap), r = (.ret, [Sl.enc a_, Sl.enc b_, und, und, bv q11, iv q12, Sl.enc a_, iv (((a_.getD []).length : Nat) : Int), Sl.enc b_, iv (((b_.getD []).length : Nat) : Int), bv (!decide ((((a_.getD []).length : Nat) : Int) = (((b_.getD []).length : Nat) : Int))), AV.top, AV.top, AV.top, AV.top, AV.top, AV.top, AV.top, AV.top, AV.top, AV.top, AV.top, AV.top, AV.top, AV.top, AV.top, AV.top], h9) ∧ Hold B h9 []) := by
  refine loop_sim (Rel := fun (st : Int) tm h2 => match st with | w4 => tm = [Sl.enc a_, Sl.enc b_, und, und, AV.top, iv w4, Sl.enc a_, iv (((a_.getD []).length : Nat) : Int), Sl.enc b_, iv (((b_.getD []).length : Nat) : Int), bv (!decide ((((a_.getD []).length : Nat) : Int) = (((b_.getD []).length : Nat) : Int))), AV.top, AV.top, AV.top, AV.top, AV.top, AV.top, AV.top, AV.top, AV.top, AV.top, AV.top, AV.top, AV.top, AV.top, AV.top, AV.top] ∧ Hold B h2 []) (fun w4 tm h2 R => ?_) R
  obtain ⟨rfl, O3⟩ := R
  rw [e_lb0_laws_eqSymbolS]
  unfold s0_laws_eqSymbolS
  dsimp only
  refine sim_let (v := iv (((a_.getD []).length : Nat) : Int)) (Tab.enc h2 a_).len ?_
  refine sim_let (v := bv (decide (w4 < (((a_.getD []).length : Nat) : Int)))) (aBin_lss _ _) ?_
  refine sim_cond (fun c13 => ?_) (fun c13 => ?_)
  · refine sim_get (Tab.enc h2 a_) (fun m15 a14 hi16 hm17 => ?_)
    refine sim_let (v := AV.agg [sv a14.label, iv a14.box.x1, iv a14.box.y1, iv a14.box.x2, iv a14.box.y2]) ((Tab.enc h2 a_).ld hm17 true 5 0) ?_
    refine sim_get (Tab.enc h2 b_) (fun m19 a18 hi20 hm21 => ?_)
    refine sim_let (v := AV.agg [sv a18.label, iv a18.box.x1, iv a18.box.y1, iv a18.box.x2, iv a18.box.y2]) ((Tab.enc h2 b_).ld hm21 true 5 0) ?_
    refine sim_callVQ2 (t := (fun a b : Symbol => decide (a = b))) he_laws_eqSymbol (snapD_nr _ a14 rfl) (snapD_nr _ a18 rfl) (fun c22 => ?_)
    refine sim_let (v := bv (!c22)) (aUn_not _) ?_
    refine sim_cond (fun c23 => ?_) (fun c23 => ?_)
    · exact sim_ret ⟨nofun, _, _, rfl, O3⟩
    · refine sim_let (v := iv (wr (w4 + 1))) (aBin_add _ _) ?_
      exact sim_ret ⟨rfl, rfl, O3⟩
  · exact sim_ret ⟨nofun, _, _, _, rfl, O3⟩
theorem ts_laws_eqSymbolS (env : Nat → Contract) (he_laws_eqSymbol : env n_laws_eqSymbol = .pure (T2 (fun a b : Symbol => decide (a = b)))) (a_ : Sl Symbol) (b_ : Sl Symbol) : Sim (denFn Try.prog env n_laws_eqSymbolS [Sl.enc a_, Sl.enc b_] []) (t_laws_eqSymbolS a_ b_) fun c p => release p.2 depth p.1 = some ((fun c : Bool => enc c) c) := by
  have O := Hold.nil []
  generalize hB : (⟨[], []⟩ : Base) = B at O
  clear hB
  rw [e_laws_eqSymbolS]
  unfold t_laws_eqSymbolS
  refine sim_let (v := iv (((a_.getD []).length : Nat) : Int)) (Tab.enc [] a_).len ?_
  refine sim_let (v := iv (((b_.getD []).length : Nat) : Int)) (Tab.enc [] b_).len ?_
  refine sim_let (v := bv (!decide ((((a_.getD []).length : Nat) : Int) = (((b_.getD []).length : Nat) : Int)))) (aCmp_ne _ _) ?_
  refine sim_cond (fun c1 => ?_) (fun c1 => ?_)
  · exact sim_ret (release_plain (by rfl) _)
  · refine sim_bind ((tl0_laws_eqSymbolS env he_laws_eqSymbol a_ b_) ⟨rfl, O⟩) (fun qq28 r hq => ?_)
    rcases qq28 with _ | q11
    · obtain ⟨q8, z7, h5, rfl, O6⟩ := hq
      rw [e_lk0x0_laws_eqSymbolS]
      exact sim_ret (release_plain (by rfl) _)
    · obtain ⟨q12, h9, rfl, O10⟩ := hq
      rw [e_lk0r_laws_eqSymbolS]
      exact sim_ret (release_plain (by rfl) _)
theorem tt_laws_eqSymbolS : PureOK Try.prog n_laws_eqSymbolS (C2 (fun c : Bool => enc c) t_laws_eqSymbolS) := pureC2 (Econs ok_laws_eqSymbol E0) mixed hb_laws_eqSymbolS fun a_ b_ => ts_laws_eqSymbolS _ (by simp [envL]) a_ b_

def t_spec_l21Label (kind_ : Int) : Option ByteArray :=
  bif decide (kind_ = 2) then
    some (⟨#[45]⟩ : ByteArray)
  else
    bif decide (kind_ = 5) then
      some (⟨#[114]⟩ : ByteArray)
    else
      some (⟨#[]⟩ : ByteArray)

theorem ts_spec_l21Label (env : Nat → Contract)  (kind_ : Int) : Sim (denFn Try.prog env n_spec_l21Label [iv kind_] []) (t_spec_l21Label kind_) fun c p => release p.2 depth p.1 = some ((fun c : ByteArray => enc c) c) := by
  have O := Hold.nil []
  generalize hB : (⟨[], []⟩ : Base) = B at O
  clear hB
  rw [e_spec_l21Label]
  unfold t_spec_l21Label
  refine sim_let (v := bv (decide (kind_ = 2))) (aCmp_eq _ _) ?_
  refine sim_cond (fun c1 => ?_) (fun c1 => ?_)
  · exact sim_ret (release_plain (by rfl) _)
  · refine sim_let (v := bv (decide (kind_ = 5))) (aCmp_eq _ _) ?_
    refine sim_cond (fun c2 => ?_) (fun c2 => ?_)
    · exact sim_ret (release_plain (by rfl) _)
    · exact sim_ret (release_plain (by rfl) _)
theorem tt_spec_l21Label : PureOK Try.prog n_spec_l21Label (C1 (fun c : ByteArray => enc c) t_spec_l21Label) := pureC1 E0 mixed hb_spec_l21Label fun kind_ => ts_spec_l21Label _  kind_

def t_spec_l21Fits (kind_ : Int) (sign_ : Box) (a_ : Box) (b_ : Box) : Option Bool :=
  bif decide (kind_ = 1) then
    obind (some (relation a_ b_)) fun c14 =>
    some (decide (c14 = 1))
  else
    bif decide (kind_ = 3) then
      obind (some (relation a_ b_)) fun c16 =>
      some (decide (c16 = 4))
    else
      bif decide (kind_ = 4) then
        obind (some (relation a_ b_)) fun c18 =>
        some (decide (c18 = 5))
      else
        bif decide (kind_ = 2) then
          obind (some (relation sign_ a_)) fun c20 =>
          obind (bif decide (c20 = 2) then (obind (some (relation sign_ b_)) fun c22 => some (decide (c22 = 3))) else some false) fun c23 =>
          some (bif decide (c20 = 2) then c23 else false)
        else
          obind (some (relation sign_ a_)) fun c24 =>
          some (decide (c24 = 6))

theorem ts_spec_l21Fits (env : Nat → Contract) (he_spec_l20Relation : env n_spec_l20Relation = .pure (T2 relation)) (kind_ : Int) (sign_ : Box) (a_ : Box) (b_ : Box) : Sim (denFn Try.prog env n_spec_l21Fits [iv kind_, AV.agg [iv sign_.x1, iv sign_.y1, iv sign_.x2, iv sign_.y2], AV.agg [iv a_.x1, iv a_.y1, iv a_.x2, iv a_.y2], AV.agg [iv b_.x1, iv b_.y1, iv b_.x2, iv b_.y2]] []) (t_spec_l21Fits kind_ sign_ a_ b_) fun c p => release p.2 depth p.1 = some ((fun c : Bool => enc c) c) := by
  have O := Hold.nil []
  generalize hB : (⟨[], []⟩ : Base) = B at O
  clear hB
  rw [e_spec_l21Fits]
  unfold t_spec_l21Fits
  refine sim_box O (cs := [iv sign_.x1, iv sign_.y1, iv sign_.x2, iv sign_.y2]) (by first | rfl | simp) (fun o1 h2 O3 => ?_)
  replace O3 : Hold B h2 [(AV.ptr o1 1 0 0, .pt 4 [iv sign_.x1, iv sign_.y1, iv sign_.x2, iv sign_.y2])] := O3
  refine sim_box O3 (cs := [iv a_.x1, iv a_.y1, iv a_.x2, iv a_.y2]) (by first | rfl | simp) (fun o5 h6 O7 => ?_)
  replace O7 : Hold B h6 [(AV.ptr o1 1 0 0, .pt 4 [iv sign_.x1, iv sign_.y1, iv sign_.x2, iv sign_.y2]), (AV.ptr o5 1 0 0, .pt 4 [iv a_.x1, iv a_.y1, iv a_.x2, iv a_.y2])] := O7
  refine sim_box O7 (cs := [iv b_.x1, iv b_.y1, iv b_.x2, iv b_.y2]) (by first | rfl | simp) (fun o9 h10 O11 => ?_)
  replace O11 : Hold B h10 [(AV.ptr o1 1 0 0, .pt 4 [iv sign_.x1, iv sign_.y1, iv sign_.x2, iv sign_.y2]), (AV.ptr o5 1 0 0, .pt 4 [iv a_.x1, iv a_.y1, iv a_.x2, iv a_.y2]), (AV.ptr o9 1 0 0, .pt 4 [iv b_.x1, iv b_.y1, iv b_.x2, iv b_.y2])] := O11
  refine sim_let (v := bv (decide (kind_ = 1))) (aCmp_eq _ _) ?_
  refine sim_cond (fun c13 => ?_) (fun c13 => ?_)
  · refine sim_let (v := AV.agg [iv a_.x1, iv a_.y1, iv a_.x2, iv a_.y2]) (O11.ld 1 rfl true 4 0) ?_
    refine sim_let (v := AV.agg [iv b_.x1, iv b_.y1, iv b_.x2, iv b_.y2]) (O11.ld 2 rfl true 4 0) ?_
    refine sim_callV2 (t := relation) he_spec_l20Relation (snapD_nr _ a_ rfl) (snapD_nr _ b_ rfl) (fun c14 => ?_)
    refine sim_let (v := bv (decide (c14 = 1))) (aCmp_eq _ _) ?_
    exact sim_ret (release_plain (by rfl) _)
  · refine sim_let (v := bv (decide (kind_ = 3))) (aCmp_eq _ _) ?_
    refine sim_cond (fun c15 => ?_) (fun c15 => ?_)
    · refine sim_let (v := AV.agg [iv a_.x1, iv a_.y1, iv a_.x2, iv a_.y2]) (O11.ld 1 rfl true 4 0) ?_
      refine sim_let (v := AV.agg [iv b_.x1, iv b_.y1, iv b_.x2, iv b_.y2]) (O11.ld 2 rfl true 4 0) ?_
      refine sim_callV2 (t := relation) he_spec_l20Relation (snapD_nr _ a_ rfl) (snapD_nr _ b_ rfl) (fun c16 => ?_)
      refine sim_let (v := bv (decide (c16 = 4))) (aCmp_eq _ _) ?_
      exact sim_ret (release_plain (by rfl) _)
    · refine sim_let (v := bv (decide (kind_ = 4))) (aCmp_eq _ _) ?_
      refine sim_cond (fun c17 => ?_) (fun c17 => ?_)
      · refine sim_let (v := AV.agg [iv a_.x1, iv a_.y1, iv a_.x2, iv a_.y2]) (O11.ld 1 rfl true 4 0) ?_
        refine sim_let (v := AV.agg [iv b_.x1, iv b_.y1, iv b_.x2, iv b_.y2]) (O11.ld 2 rfl true 4 0) ?_
        refine sim_callV2 (t := relation) he_spec_l20Relation (snapD_nr _ a_ rfl) (snapD_nr _ b_ rfl) (fun c18 => ?_)
        refine sim_let (v := bv (decide (c18 = 5))) (aCmp_eq _ _) ?_
        exact sim_ret (release_plain (by rfl) _)
      · refine sim_let (v := bv (decide (kind_ = 2))) (aCmp_eq _ _) ?_
        refine sim_cond (fun c19 => ?_) (fun c19 => ?_)
        · refine sim_let (v := AV.agg [iv sign_.x1, iv sign_.y1, iv sign_.x2, iv sign_.y2]) (O11.ld 0 rfl true 4 0) ?_
          refine sim_let (v := AV.agg [iv a_.x1, iv a_.y1, iv a_.x2, iv a_.y2]) (O11.ld 1 rfl true 4 0) ?_
          refine sim_callV2 (t := relation) he_spec_l20Relation (snapD_nr _ sign_ rfl) (snapD_nr _ a_ rfl) (fun c20 => ?_)
          refine sim_let (v := bv (decide (c20 = 2))) (aCmp_eq _ _) ?_
          refine sim_guardT (e := bv) (fun hb21 => ?_) (fun c23 => ?_)
          · refine sim_let (v := AV.agg [iv sign_.x1, iv sign_.y1, iv sign_.x2, iv sign_.y2]) (O11.ld 0 rfl true 4 0) ?_
            refine sim_let (v := AV.agg [iv b_.x1, iv b_.y1, iv b_.x2, iv b_.y2]) (O11.ld 2 rfl true 4 0) ?_
            refine sim_callV2 (t := relation) he_spec_l20Relation (snapD_nr _ sign_ rfl) (snapD_nr _ b_ rfl) (fun c22 => ?_)
            refine sim_let (v := bv (decide (c22 = 3))) (aCmp_eq _ _) ?_
            exact sim_ret rfl
          · refine sim_let (v := bv (bif decide (c20 = 2) then c23 else false)) (pick_b _ _ _) ?_
            exact sim_ret (release_plain (by rfl) _)
        · refine sim_let (v := AV.agg [iv sign_.x1, iv sign_.y1, iv sign_.x2, iv sign_.y2]) (O11.ld 0 rfl true 4 0) ?_
          refine sim_let (v := AV.agg [iv a_.x1, iv a_.y1, iv a_.x2, iv a_.y2]) (O11.ld 1 rfl true 4 0) ?_
          refine sim_callV2 (t := relation) he_spec_l20Relation (snapD_nr _ sign_ rfl) (snapD_nr _ a_ rfl) (fun c24 => ?_)
          refine sim_let (v := bv (decide (c24 = 6))) (aCmp_eq _ _) ?_
          exact sim_ret (release_plain (by rfl) _)
theorem tt_spec_l21Fits : PureOK Try.prog n_spec_l21Fits (C4 (fun c : Bool => enc c) t_spec_l21Fits) := pureC4 (Econs ok_spec_l20Relation E0) mixed hb_spec_l21Fits fun kind_ sign_ a_ b_ => ts_spec_l21Fits _ (by simp [envL]) kind_ sign_ a_ b_

def t_spec_l21Own (kind_ : Int) (sign_ : Box) (a_ : Box) (b_ : Box) : Option Int :=
  bif decide (kind_ = 1) then
    obind (some (absI (wr ((wr ((wr (a_.y1 + a_.y2)) - b_.y1)) - b_.y2)))) fun c14 =>
    obind (some ((fun a b : Int => max a b) 0 (wr (b_.x1 - a_.x2)))) fun c15 =>
    some (wr (c14 + c15))
  else
    bif decide (kind_ = 3) then
      obind (some (absI (wr (b_.x1 - a_.x2)))) fun c17 =>
      obind (some (absI (wr (b_.y2 - a_.y1)))) fun c18 =>
      some (wr ((wr (c17 + c18)) + 20))
    else
      bif decide (kind_ = 4) then
        obind (some (absI (wr (b_.x1 - a_.x2)))) fun c20 =>
        obind (some (absI (wr (b_.y1 - a_.y2)))) fun c21 =>
        some (wr ((wr (c20 + c21)) + 20))
      else
        bif decide (kind_ = 2) then
          obind (some (absI (wr ((wr ((wr (a_.x1 + a_.x2)) - sign_.x1)) - sign_.x2)))) fun c23 =>
          obind (some (absI (wr ((wr ((wr (b_.x1 + b_.x2)) - sign_.x1)) - sign_.x2)))) fun c24 =>
          some (wr (c23 + c24))
        else
          some 0

theorem ts_spec_l21Own (env : Nat → Contract) (he_spec_l00Max : env n_spec_l00Max = .pure (T2 (fun a b : Int => max a b))) (he_spec_l05Size : env n_spec_l05Size = .pure (T1 absI)) (kind_ : Int) (sign_ : Box) (a_ : Box) (b_ : Box) : Sim (denFn Try.prog env n_spec_l21Own [iv kind_, AV.agg [iv sign_.x1, iv sign_.y1, iv sign_.x2, iv sign_.y2], AV.agg [iv a_.x1, iv a_.y1, iv a_.x2, iv a_.y2], AV.agg [iv b_.x1, iv b_.y1, iv b_.x2, iv b_.y2]] []) (t_spec_l21Own kind_ sign_ a_ b_) fun c p => release p.2 depth p.1 = some ((fun c : Int => enc c) c) := by
  have O := Hold.nil []
  generalize hB : (⟨[], []⟩ : Base) = B at O
  clear hB
  rw [e_spec_l21Own]
  unfold t_spec_l21Own
  refine sim_box O (cs := [iv sign_.x1, iv sign_.y1, iv sign_.x2, iv sign_.y2]) (by first | rfl | simp) (fun o1 h2 O3 => ?_)
  replace O3 : Hold B h2 [(AV.ptr o1 1 0 0, .pt 4 [iv sign_.x1, iv sign_.y1, iv sign_.x2, iv sign_.y2])] := O3
  refine sim_box O3 (cs := [iv a_.x1, iv a_.y1, iv a_.x2, iv a_.y2]) (by first | rfl | simp) (fun o5 h6 O7 => ?_)
  replace O7 : Hold B h6 [(AV.ptr o1 1 0 0, .pt 4 [iv sign_.x1, iv sign_.y1, iv sign_.x2, iv sign_.y2]), (AV.ptr o5 1 0 0, .pt 4 [iv a_.x1, iv a_.y1, iv a_.x2, iv a_.y2])] := O7
  refine sim_box O7 (cs := [iv b_.x1, iv b_.y1, iv b_.x2, iv b_.y2]) (by first | rfl | simp) (fun o9 h10 O11 => ?_)
  replace O11 : Hold B h10 [(AV.ptr o1 1 0 0, .pt 4 [iv sign_.x1, iv sign_.y1, iv sign_.x2, iv sign_.y2]), (AV.ptr o5 1 0 0, .pt 4 [iv a_.x1, iv a_.y1, iv a_.x2, iv a_.y2]), (AV.ptr o9 1 0 0, .pt 4 [iv b_.x1, iv b_.y1, iv b_.x2, iv b_.y2])] := O11
  refine sim_let (v := bv (decide (kind_ = 1))) (aCmp_eq _ _) ?_
  refine sim_cond (fun c13 => ?_) (fun c13 => ?_)
  · refine sim_let (v := AV.ptr o5 1 0 1) rfl ?_
    refine sim_let (v := iv a_.y1) (O11.ld 1 rfl false 1 1) ?_
    refine sim_let (v := AV.ptr o5 1 0 3) rfl ?_
    refine sim_let (v := iv a_.y2) (O11.ld 1 rfl false 1 3) ?_
    refine sim_let (v := iv (wr (a_.y1 + a_.y2))) (aBin_add _ _) ?_
    refine sim_let (v := AV.ptr o9 1 0 1) rfl ?_
    refine sim_let (v := iv b_.y1) (O11.ld 2 rfl false 1 1) ?_
    refine sim_let (v := iv (wr ((wr (a_.y1 + a_.y2)) - b_.y1))) (aBin_sub _ _) ?_
    refine sim_let (v := AV.ptr o9 1 0 3) rfl ?_
    refine sim_let (v := iv b_.y2) (O11.ld 2 rfl false 1 3) ?_
    refine sim_let (v := iv (wr ((wr ((wr (a_.y1 + a_.y2)) - b_.y1)) - b_.y2))) (aBin_sub _ _) ?_
    refine sim_callVQ1 (t := absI) he_spec_l05Size (snapD_int _ _) (fun c14 => ?_)
    refine sim_let (v := AV.ptr o9 1 0 0) rfl ?_
    refine sim_let (v := iv b_.x1) (O11.ld 2 rfl false 1 0) ?_
    refine sim_let (v := AV.ptr o5 1 0 2) rfl ?_
    refine sim_let (v := iv a_.x2) (O11.ld 1 rfl false 1 2) ?_
    refine sim_let (v := iv (wr (b_.x1 - a_.x2))) (aBin_sub _ _) ?_
    refine sim_callVQ2 (t := (fun a b : Int => max a b)) he_spec_l00Max (snapD_int _ _) (snapD_int _ _) (fun c15 => ?_)
    refine sim_let (v := iv (wr (c14 + c15))) (aBin_add _ _) ?_
    exact sim_ret (release_plain (by rfl) _)
  · refine sim_let (v := bv (decide (kind_ = 3))) (aCmp_eq _ _) ?_
    refine sim_cond (fun c16 => ?_) (fun c16 => ?_)
    · refine sim_let (v := AV.ptr o9 1 0 0) rfl ?_
      refine sim_let (v := iv b_.x1) (O11.ld 2 rfl false 1 0) ?_
      refine sim_let (v := AV.ptr o5 1 0 2) rfl ?_
      refine sim_let (v := iv a_.x2) (O11.ld 1 rfl false 1 2) ?_
      refine sim_let (v := iv (wr (b_.x1 - a_.x2))) (aBin_sub _ _) ?_
      refine sim_callVQ1 (t := absI) he_spec_l05Size (snapD_int _ _) (fun c17 => ?_)
      refine sim_let (v := AV.ptr o9 1 0 3) rfl ?_
      refine sim_let (v := iv b_.y2) (O11.ld 2 rfl false 1 3) ?_
      refine sim_let (v := AV.ptr o5 1 0 1) rfl ?_
      refine sim_let (v := iv a_.y1) (O11.ld 1 rfl false 1 1) ?_
      refine sim_let (v := iv (wr (b_.y2 - a_.y1))) (aBin_sub _ _) ?_
      refine sim_callVQ1 (t := absI) he_spec_l05Size (snapD_int _ _) (fun c18 => ?_)
      refine sim_let (v := iv (wr (c17 + c18))) (aBin_add _ _) ?_
      refine sim_let (v := iv (wr ((wr (c17 + c18)) + 20))) (aBin_add _ _) ?_
      exact sim_ret (release_plain (by rfl) _)
    · refine sim_let (v := bv (decide (kind_ = 4))) (aCmp_eq _ _) ?_
      refine sim_cond (fun c19 => ?_) (fun c19 => ?_)
      · refine sim_let (v := AV.ptr o9 1 0 0) rfl ?_
        refine sim_let (v := iv b_.x1) (O11.ld 2 rfl false 1 0) ?_
        refine sim_let (v := AV.ptr o5 1 0 2) rfl ?_
        refine sim_let (v := iv a_.x2) (O11.ld 1 rfl false 1 2) ?_
        refine sim_let (v := iv (wr (b_.x1 - a_.x2))) (aBin_sub _ _) ?_
        refine sim_callVQ1 (t := absI) he_spec_l05Size (snapD_int _ _) (fun c20 => ?_)
        refine sim_let (v := AV.ptr o9 1 0 1) rfl ?_
        refine sim_let (v := iv b_.y1) (O11.ld 2 rfl false 1 1) ?_
        refine sim_let (v := AV.ptr o5 1 0 3) rfl ?_
        refine sim_let (v := iv a_.y2) (O11.ld 1 rfl false 1 3) ?_
        refine sim_let (v := iv (wr (b_.y1 - a_.y2))) (aBin_sub _ _) ?_
        refine sim_callVQ1 (t := absI) he_spec_l05Size (snapD_int _ _) (fun c21 => ?_)
        refine sim_let (v := iv (wr (c20 + c21))) (aBin_add _ _) ?_
        refine sim_let (v := iv (wr ((wr (c20 + c21)) + 20))) (aBin_add _ _) ?_
        exact sim_ret (release_plain (by rfl) _)
      · refine sim_let (v := bv (decide (kind_ = 2))) (aCmp_eq _ _) ?_
        refine sim_cond (fun c22 => ?_) (fun c22 => ?_)
        · refine sim_let (v := AV.ptr o5 1 0 0) rfl ?_
          refine sim_let (v := iv a_.x1) (O11.ld 1 rfl false 1 0) ?_
          refine sim_let (v := AV.ptr o5 1 0 2) rfl ?_
          refine sim_let (v := iv a_.x2) (O11.ld 1 rfl false 1 2) ?_
          refine sim_let (v := iv (wr (a_.x1 + a_.x2))) (aBin_add _ _) ?_
          refine sim_let (v := AV.ptr o1 1 0 0) rfl ?_
          refine sim_let (v := iv sign_.x1) (O11.ld 0 rfl false 1 0) ?_
          refine sim_let (v := iv (wr ((wr (a_.x1 + a_.x2)) - sign_.x1))) (aBin_sub _ _) ?_
          refine sim_let (v := AV.ptr o1 1 0 2) rfl ?_
          refine sim_let (v := iv sign_.x2) (O11.ld 0 rfl false 1 2) ?_
          refine sim_let (v := iv (wr ((wr ((wr (a_.x1 + a_.x2)) - sign_.x1)) - sign_.x2))) (aBin_sub _ _) ?_
          refine sim_callVQ1 (t := absI) he_spec_l05Size (snapD_int _ _) (fun c23 => ?_)
          refine sim_let (v := AV.ptr o9 1 0 0) rfl ?_
          refine sim_let (v := iv b_.x1) (O11.ld 2 rfl false 1 0) ?_
          refine sim_let (v := AV.ptr o9 1 0 2) rfl ?_
          refine sim_let (v := iv b_.x2) (O11.ld 2 rfl false 1 2) ?_
          refine sim_let (v := iv (wr (b_.x1 + b_.x2))) (aBin_add _ _) ?_
          refine sim_let (v := AV.ptr o1 1 0 0) rfl ?_
          refine sim_let (v := iv sign_.x1) (O11.ld 0 rfl false 1 0) ?_
          refine sim_let (v := iv (wr ((wr (b_.x1 + b_.x2)) - sign_.x1))) (aBin_sub _ _) ?_
          refine sim_let (v := AV.ptr o1 1 0 2) rfl ?_
          refine sim_let (v := iv sign_.x2) (O11.ld 0 rfl false 1 2) ?_
          refine sim_let (v := iv (wr ((wr ((wr (b_.x1 + b_.x2)) - sign_.x1)) - sign_.x2))) (aBin_sub _ _) ?_
          refine sim_callVQ1 (t := absI) he_spec_l05Size (snapD_int _ _) (fun c24 => ?_)
          refine sim_let (v := iv (wr (c23 + c24))) (aBin_add _ _) ?_
          exact sim_ret (release_plain (by rfl) _)
        · exact sim_ret (release_plain (by rfl) _)
theorem tt_spec_l21Own : PureOK Try.prog n_spec_l21Own (C4 (fun c : Int => enc c) t_spec_l21Own) := pureC4 (Econs ok_spec_l00Max (Econs ok_spec_l05Size E0)) mixed hb_spec_l21Own fun kind_ sign_ a_ b_ => ts_spec_l21Own _ (by simp [envL]) (by simp [envL]) kind_ sign_ a_ b_

def t_spec_l21Chart_try (c_ : Chart21) (set_ : Int) (kind_ : Int) (sign_ : Int) (first_ : Int) (rest_ : Int) : Option Chart21 :=
  obind (getI (c_.cells.getD []) first_) fun a1 =>
  obind (getI (c_.cells.getD []) rest_) fun a11 =>
  bif !decide (rest_ = 0) then
    obind (t_spec_l21Label kind_) fun c28 =>
    bif !decide (c28 = (⟨#[]⟩ : ByteArray)) then
      obind (getI (c_.list.getD []) sign_) fun a30 =>
      obind (bif decide (wr (a1.ways * a11.ways) = 0) then some false else (obind (t_spec_l21Fits kind_ a30.box a1.box a11.box) fun c37 => some (!c37))) fun c38 =>
      bif (bif decide (wr (a1.ways * a11.ways) = 0) then true else c38) then
        some (⟨c_.list, c_.cells⟩ : Chart21)
      else
        obind (getI (c_.cells.getD []) set_) fun a41 =>
        obind (t_spec_l21Own kind_ a30.box a1.box a11.box) fun c45 =>
        obind (bif decide (a41.ways = 0) then some false else (some (decide ((wr ((wr (a1.cost + a11.cost)) + c45)) < a41.cost)))) fun c47 =>
        bif (bif decide (a41.ways = 0) then true else c47) then
          some (⟨c_.list, (setS c_.cells set_ (⟨⟨a41.box.x1, a41.box.y1, a41.box.x2, a41.box.y2⟩, wr (a41.ways + (wr (a1.ways * a11.ways))), wr ((wr (a1.cost + a11.cost)) + c45), kind_, sign_, first_, rest_⟩ : Cell21))⟩ : Chart21)
        else
          some (⟨c_.list, (setS c_.cells set_ (⟨⟨a41.box.x1, a41.box.y1, a41.box.x2, a41.box.y2⟩, wr (a41.ways + (wr (a1.ways * a11.ways))), a41.cost, a41.kind, a41.sign, a41.first, a41.rest⟩ : Cell21))⟩ : Chart21)
    else
      obind (bif decide (wr (a1.ways * a11.ways) = 0) then some false else (obind (t_spec_l21Fits kind_ (⟨0, 0, 0, 0⟩ : Box) a1.box a11.box) fun c66 => some (!c66))) fun c67 =>
      bif (bif decide (wr (a1.ways * a11.ways) = 0) then true else c67) then
        some (⟨c_.list, c_.cells⟩ : Chart21)
      else
        obind (getI (c_.cells.getD []) set_) fun a70 =>
        obind (t_spec_l21Own kind_ (⟨0, 0, 0, 0⟩ : Box) a1.box a11.box) fun c74 =>
        obind (bif decide (a70.ways = 0) then some false else (some (decide ((wr ((wr (a1.cost + a11.cost)) + c74)) < a70.cost)))) fun c76 =>
        bif (bif decide (a70.ways = 0) then true else c76) then
          some (⟨c_.list, (setS c_.cells set_ (⟨⟨a70.box.x1, a70.box.y1, a70.box.x2, a70.box.y2⟩, wr (a70.ways + (wr (a1.ways * a11.ways))), wr ((wr (a1.cost + a11.cost)) + c74), kind_, sign_, first_, rest_⟩ : Cell21))⟩ : Chart21)
        else
          some (⟨c_.list, (setS c_.cells set_ (⟨⟨a70.box.x1, a70.box.y1, a70.box.x2, a70.box.y2⟩, wr (a70.ways + (wr (a1.ways * a11.ways))), a70.cost, a70.kind, a70.sign, a70.first, a70.rest⟩ : Cell21))⟩ : Chart21)
  else
    obind (t_spec_l21Label kind_) fun c100 =>
    bif !decide (c100 = (⟨#[]⟩ : ByteArray)) then
      obind (getI (c_.list.getD []) sign_) fun a102 =>
      obind (bif decide (a1.ways = 0) then some false else (obind (t_spec_l21Fits kind_ a102.box a1.box a11.box) fun c109 => some (!c109))) fun c110 =>
      bif (bif decide (a1.ways = 0) then true else c110) then
        some (⟨c_.list, c_.cells⟩ : Chart21)
      else
        obind (getI (c_.cells.getD []) set_) fun a113 =>
        obind (t_spec_l21Own kind_ a102.box a1.box a11.box) fun c117 =>
        obind (bif decide (a113.ways = 0) then some false else (some (decide ((wr ((wr (a1.cost + a11.cost)) + c117)) < a113.cost)))) fun c119 =>
        bif (bif decide (a113.ways = 0) then true else c119) then
          some (⟨c_.list, (setS c_.cells set_ (⟨⟨a113.box.x1, a113.box.y1, a113.box.x2, a113.box.y2⟩, wr (a113.ways + a1.ways), wr ((wr (a1.cost + a11.cost)) + c117), kind_, sign_, first_, rest_⟩ : Cell21))⟩ : Chart21)
        else
          some (⟨c_.list, (setS c_.cells set_ (⟨⟨a113.box.x1, a113.box.y1, a113.box.x2, a113.box.y2⟩, wr (a113.ways + a1.ways), a113.cost, a113.kind, a113.sign, a113.first, a113.rest⟩ : Cell21))⟩ : Chart21)
    else
      obind (bif decide (a1.ways = 0) then some false else (obind (t_spec_l21Fits kind_ (⟨0, 0, 0, 0⟩ : Box) a1.box a11.box) fun c138 => some (!c138))) fun c139 =>
      bif (bif decide (a1.ways = 0) then true else c139) then
        some (⟨c_.list, c_.cells⟩ : Chart21)
      else
        obind (getI (c_.cells.getD []) set_) fun a142 =>
        obind (t_spec_l21Own kind_ (⟨0, 0, 0, 0⟩ : Box) a1.box a11.box) fun c146 =>
        obind (bif decide (a142.ways = 0) then some false else (some (decide ((wr ((wr (a1.cost + a11.cost)) + c146)) < a142.cost)))) fun c148 =>
        bif (bif decide (a142.ways = 0) then true else c148) then
          some (⟨c_.list, (setS c_.cells set_ (⟨⟨a142.box.x1, a142.box.y1, a142.box.x2, a142.box.y2⟩, wr (a142.ways + a1.ways), wr ((wr (a1.cost + a11.cost)) + c146), kind_, sign_, first_, rest_⟩ : Cell21))⟩ : Chart21)
        else
          some (⟨c_.list, (setS c_.cells set_ (⟨⟨a142.box.x1, a142.box.y1, a142.box.x2, a142.box.y2⟩, wr (a142.ways + a1.ways), a142.cost, a142.kind, a142.sign, a142.first, a142.rest⟩ : Cell21))⟩ : Chart21)

theorem ts_spec_l21Chart_try (env : Nat → Contract) (he_spec_l21Fits : env n_spec_l21Fits = .pure (C4 (fun c : Bool => enc c) t_spec_l21Fits)) (he_spec_l21Label : env n_spec_l21Label = .pure (C1 (fun c : ByteArray => enc c) t_spec_l21Label)) (he_spec_l21Own : env n_spec_l21Own = .pure (C4 (fun c : Int => enc c) t_spec_l21Own)) {B : Base} {h : Heap} {o_ : Nat} {x_cells_ : AV} (c_ : Chart21) (set_ : Int) (kind_ : Int) (sign_ : Int) (first_ : Int) (rest_ : Int) (O : Hold B h [(AV.ptr o_ 1 0 0, .pt 2 [Sl.enc c_.list, x_cells_]), (x_cells_, obS (c_.cells : Sl Cell21))]) : Sim (denFn Try.prog env n_spec_l21Chart_try [AV.ptr o_ 1 0 0, iv set_, iv kind_, iv sign_, iv first_, iv rest_] h) (t_spec_l21Chart_try c_ set_ kind_ sign_ first_ rest_) (fun c p => ∃ x1, p.1 = und ∧ Hold B p.2 ([(AV.ptr o_ 1 0 0, .pt 2 [Sl.enc c.list, x1]), (x1, obS (c.cells : Sl Cell21))])) := by
  rw [e_spec_l21Chart_try]
  unfold t_spec_l21Chart_try
  refine sim_let (v := AV.ptr o_ 1 0 0) rfl ?_
  refine sim_let (v := AV.ptr o_ 1 0 1) rfl ?_
  refine sim_let (v := x_cells_) (O.ld 0 rfl false 1 1) ?_
  refine sim_get (O.tab (A := Cell21) (s := c_.cells) 1 rfl) (fun m2 a1 hi3 hm4 => ?_)
  refine sim_let (v := AV.agg [iv a1.box.x1, iv a1.box.y1, iv a1.box.x2, iv a1.box.y2, iv a1.ways, iv a1.cost, iv a1.kind, iv a1.sign, iv a1.first, iv a1.rest]) ((O.tab (A := Cell21) (s := c_.cells) 1 rfl).ld hm4 true 10 0) ?_
  refine sim_box O (cs := [iv 0, iv 0, iv 0, iv 0, iv 0, iv 0, iv 0, iv 0, iv 0, iv 0]) (by first | rfl | simp) (fun o5 h6 O7 => ?_)
  replace O7 : Hold B h6 [(AV.ptr o_ 1 0 0, .pt 2 [Sl.enc c_.list, x_cells_]), (x_cells_, obS (c_.cells : Sl Cell21)), (AV.ptr o5 1 0 0, .pt 10 [iv 0, iv 0, iv 0, iv 0, iv 0, iv 0, iv 0, iv 0, iv 0, iv 0])] := O7
  refine sim_store O7 2 (cs' := [iv a1.box.x1, iv a1.box.y1, iv a1.box.x2, iv a1.box.y2, iv a1.ways, iv a1.cost, iv a1.kind, iv a1.sign, iv a1.first, iv a1.rest]) rfl (by first | rfl | simp) (by simp) (by first | rfl | simp) (by first | rfl | simp [splice]) (fun h9 O10 => ?_)
  replace O10 : Hold B h9 [(AV.ptr o_ 1 0 0, .pt 2 [Sl.enc c_.list, x_cells_]), (x_cells_, obS (c_.cells : Sl Cell21)), (AV.ptr o5 1 0 0, .pt 10 [iv a1.box.x1, iv a1.box.y1, iv a1.box.x2, iv a1.box.y2, iv a1.ways, iv a1.cost, iv a1.kind, iv a1.sign, iv a1.first, iv a1.rest])] := O10
  refine sim_let (v := AV.ptr o_ 1 0 0) rfl ?_
  refine sim_let (v := AV.ptr o_ 1 0 1) rfl ?_
  refine sim_let (v := x_cells_) (O10.ld 0 rfl false 1 1) ?_
  refine sim_get (O10.tab (A := Cell21) (s := c_.cells) 1 rfl) (fun m12 a11 hi13 hm14 => ?_)
  refine sim_let (v := AV.agg [iv a11.box.x1, iv a11.box.y1, iv a11.box.x2, iv a11.box.y2, iv a11.ways, iv a11.cost, iv a11.kind, iv a11.sign, iv a11.first, iv a11.rest]) ((O10.tab (A := Cell21) (s := c_.cells) 1 rfl).ld hm14 true 10 0) ?_
  refine sim_box O10 (cs := [iv 0, iv 0, iv 0, iv 0, iv 0, iv 0, iv 0, iv 0, iv 0, iv 0]) (by first | rfl | simp) (fun o15 h16 O17 => ?_)
  replace O17 : Hold B h16 [(AV.ptr o_ 1 0 0, .pt 2 [Sl.enc c_.list, x_cells_]), (x_cells_, obS (c_.cells : Sl Cell21)), (AV.ptr o5 1 0 0, .pt 10 [iv a1.box.x1, iv a1.box.y1, iv a1.box.x2, iv a1.box.y2, iv a1.ways, iv a1.cost, iv a1.kind, iv a1.sign, iv a1.first, iv a1.rest]), (AV.ptr o15 1 0 0, .pt 10 [iv 0, iv 0, iv 0, iv 0, iv 0, iv 0, iv 0, iv 0, iv 0, iv 0])] := O17
  refine sim_store O17 3 (cs' := [iv a11.box.x1, iv a11.box.y1, iv a11.box.x2, iv a11.box.y2, iv a11.ways, iv a11.cost, iv a11.kind, iv a11.sign, iv a11.first, iv a11.rest]) rfl (by first | rfl | simp) (by simp) (by first | rfl | simp) (by first | rfl | simp [splice]) (fun h19 O20 => ?_)
  replace O20 : Hold B h19 [(AV.ptr o_ 1 0 0, .pt 2 [Sl.enc c_.list, x_cells_]), (x_cells_, obS (c_.cells : Sl Cell21)), (AV.ptr o5 1 0 0, .pt 10 [iv a1.box.x1, iv a1.box.y1, iv a1.box.x2, iv a1.box.y2, iv a1.ways, iv a1.cost, iv a1.kind, iv a1.sign, iv a1.first, iv a1.rest]), (AV.ptr o15 1 0 0, .pt 10 [iv a11.box.x1, iv a11.box.y1, iv a11.box.x2, iv a11.box.y2, iv a11.ways, iv a11.cost, iv a11.kind, iv a11.sign, iv a11.first, iv a11.rest])] := O20
  refine sim_let (v := AV.ptr o5 1 0 4) rfl ?_
  refine sim_let (v := iv a1.ways) (O20.ld 2 rfl false 1 4) ?_
  refine sim_let (v := bv (!decide (rest_ = 0))) (aCmp_ne _ _) ?_
  refine sim_cond (fun c21 => ?_) (fun c21 => ?_)
  · refine sim_let (v := AV.ptr o15 1 0 4) rfl ?_
    refine sim_let (v := iv a11.ways) (O20.ld 3 rfl false 1 4) ?_
    refine sim_let (v := iv (wr (a1.ways * a11.ways))) (aBin_mul _ _) ?_
    refine sim_let (v := AV.agg [iv 0, iv 0, iv 0, iv 0]) (by first | rfl | simp [aBuild, aFill, splice]) ?_
    refine sim_box O20 (cs := [iv 0, iv 0, iv 0, iv 0]) (by first | rfl | simp) (fun o22 h23 O24 => ?_)
    replace O24 : Hold B h23 [(AV.ptr o_ 1 0 0, .pt 2 [Sl.enc c_.list, x_cells_]), (x_cells_, obS (c_.cells : Sl Cell21)), (AV.ptr o5 1 0 0, .pt 10 [iv a1.box.x1, iv a1.box.y1, iv a1.box.x2, iv a1.box.y2, iv a1.ways, iv a1.cost, iv a1.kind, iv a1.sign, iv a1.first, iv a1.rest]), (AV.ptr o15 1 0 0, .pt 10 [iv a11.box.x1, iv a11.box.y1, iv a11.box.x2, iv a11.box.y2, iv a11.ways, iv a11.cost, iv a11.kind, iv a11.sign, iv a11.first, iv a11.rest]), (AV.ptr o22 1 0 0, .pt 4 [iv 0, iv 0, iv 0, iv 0])] := O24
    refine sim_store O24 4 (cs' := [iv 0, iv 0, iv 0, iv 0]) rfl (by first | rfl | simp) (by simp) (by first | rfl | simp) (by first | rfl | simp [splice]) (fun h26 O27 => ?_)
    replace O27 : Hold B h26 [(AV.ptr o_ 1 0 0, .pt 2 [Sl.enc c_.list, x_cells_]), (x_cells_, obS (c_.cells : Sl Cell21)), (AV.ptr o5 1 0 0, .pt 10 [iv a1.box.x1, iv a1.box.y1, iv a1.box.x2, iv a1.box.y2, iv a1.ways, iv a1.cost, iv a1.kind, iv a1.sign, iv a1.first, iv a1.rest]), (AV.ptr o15 1 0 0, .pt 10 [iv a11.box.x1, iv a11.box.y1, iv a11.box.x2, iv a11.box.y2, iv a11.ways, iv a11.cost, iv a11.kind, iv a11.sign, iv a11.first, iv a11.rest]), (AV.ptr o22 1 0 0, .pt 4 [iv 0, iv 0, iv 0, iv 0])] := O27
    refine sim_call1 he_spec_l21Label (snapD_int _ _) (fun c28 => ?_)
    refine sim_let2 (hand_plain (by rfl) _ _) ?_
    refine sim_let (v := bv (!decide (c28 = (⟨#[]⟩ : ByteArray)))) (aCmp_neS _ _) ?_
    refine sim_cond (fun c29 => ?_) (fun c29 => ?_)
    · refine sim_let (v := AV.ptr o_ 1 0 0) rfl ?_
      refine sim_let (v := AV.ptr o_ 1 0 0) rfl ?_
      refine sim_let (v := Sl.enc c_.list) (O27.ld 0 rfl false 1 0) ?_
      refine sim_get (Tab.enc h26 c_.list) (fun m31 a30 hi32 hm33 => ?_)
      refine sim_let (v := elp (Sl.enc c_.list) m31 1) ((Tab.enc h26 c_.list).fld _ _ _) ?_
      refine sim_let (v := AV.agg [iv a30.box.x1, iv a30.box.y1, iv a30.box.x2, iv a30.box.y2]) ((Tab.enc h26 c_.list).ld hm33 true 4 1) ?_
      refine sim_store O27 4 (cs' := [iv a30.box.x1, iv a30.box.y1, iv a30.box.x2, iv a30.box.y2]) rfl (by first | rfl | simp) (by simp) (by first | rfl | simp) (by first | rfl | simp [splice]) (fun h34 O35 => ?_)
      replace O35 : Hold B h34 [(AV.ptr o_ 1 0 0, .pt 2 [Sl.enc c_.list, x_cells_]), (x_cells_, obS (c_.cells : Sl Cell21)), (AV.ptr o5 1 0 0, .pt 10 [iv a1.box.x1, iv a1.box.y1, iv a1.box.x2, iv a1.box.y2, iv a1.ways, iv a1.cost, iv a1.kind, iv a1.sign, iv a1.first, iv a1.rest]), (AV.ptr o15 1 0 0, .pt 10 [iv a11.box.x1, iv a11.box.y1, iv a11.box.x2, iv a11.box.y2, iv a11.ways, iv a11.cost, iv a11.kind, iv a11.sign, iv a11.first, iv a11.rest]), (AV.ptr o22 1 0 0, .pt 4 [iv a30.box.x1, iv a30.box.y1, iv a30.box.x2, iv a30.box.y2])] := O35
      refine sim_let (v := bv (decide (wr (a1.ways * a11.ways) = 0))) (aCmp_eq _ _) ?_
      refine sim_guardF (e := bv) (fun hb36 => ?_) (fun c38 => ?_)
      · refine sim_let (v := AV.agg [iv a30.box.x1, iv a30.box.y1, iv a30.box.x2, iv a30.box.y2]) (O35.ld 4 rfl true 4 0) ?_
        refine sim_let (v := AV.ptr o5 1 0 0) rfl ?_
        refine sim_let (v := AV.agg [iv a1.box.x1, iv a1.box.y1, iv a1.box.x2, iv a1.box.y2]) (O35.ld 2 rfl true 4 0) ?_
        refine sim_let (v := AV.ptr o15 1 0 0) rfl ?_
        refine sim_let (v := AV.agg [iv a11.box.x1, iv a11.box.y1, iv a11.box.x2, iv a11.box.y2]) (O35.ld 3 rfl true 4 0) ?_
        refine sim_call4 he_spec_l21Fits (snapD_int _ _) (snapD_nr _ a30.box rfl) (snapD_nr _ a1.box rfl) (snapD_nr _ a11.box rfl) (fun c37 => ?_)
        refine sim_let2 (hand_plain (by rfl) _ _) ?_
        refine sim_let (v := bv (!c37)) (aUn_not _) ?_
        exact sim_ret rfl
      · refine sim_let (v := bv (bif decide (wr (a1.ways * a11.ways) = 0) then true else c38)) (pick_b' _ _ _) ?_
        refine sim_cond (fun c39 => ?_) (fun c39 => ?_)
        · have O40 : Hold B h34 [(AV.ptr o_ 1 0 0, .pt 2 [Sl.enc c_.list, x_cells_]), (x_cells_, obS (c_.cells : Sl Cell21))] := O35.sel [0, 1] (by decide) rfl
          exact sim_ret ⟨_, rfl, O40⟩
        · refine sim_let (v := AV.ptr o_ 1 0 0) rfl ?_
          refine sim_let (v := AV.ptr o_ 1 0 1) rfl ?_
          refine sim_let (v := x_cells_) (O35.ld 0 rfl false 1 1) ?_
          refine sim_get (O35.tab (A := Cell21) (s := c_.cells) 1 rfl) (fun m42 a41 hi43 hm44 => ?_)
          refine sim_let (v := AV.ptr o5 1 0 5) rfl ?_
          refine sim_let (v := iv a1.cost) (O35.ld 2 rfl false 1 5) ?_
          refine sim_let (v := AV.ptr o15 1 0 5) rfl ?_
          refine sim_let (v := iv a11.cost) (O35.ld 3 rfl false 1 5) ?_
          refine sim_let (v := iv (wr (a1.cost + a11.cost))) (aBin_add _ _) ?_
          refine sim_let (v := AV.agg [iv a30.box.x1, iv a30.box.y1, iv a30.box.x2, iv a30.box.y2]) (O35.ld 4 rfl true 4 0) ?_
          refine sim_let (v := AV.ptr o5 1 0 0) rfl ?_
          refine sim_let (v := AV.agg [iv a1.box.x1, iv a1.box.y1, iv a1.box.x2, iv a1.box.y2]) (O35.ld 2 rfl true 4 0) ?_
          refine sim_let (v := AV.ptr o15 1 0 0) rfl ?_
          refine sim_let (v := AV.agg [iv a11.box.x1, iv a11.box.y1, iv a11.box.x2, iv a11.box.y2]) (O35.ld 3 rfl true 4 0) ?_
          refine sim_callQ4 he_spec_l21Own (snapD_int _ _) (snapD_nr _ a30.box rfl) (snapD_nr _ a1.box rfl) (snapD_nr _ a11.box rfl) (fun c45 => ?_)
          refine sim_let2 (hand_plain (by rfl) _ _) ?_
          refine sim_let (v := iv (wr ((wr (a1.cost + a11.cost)) + c45))) (aBin_add _ _) ?_
          refine sim_let (v := elp x_cells_ m42 0) (nc_elp _ _ _) ?_
          refine sim_let (v := elp x_cells_ m42 4) ((O35.tab (A := Cell21) (s := c_.cells) 1 rfl).fld _ _ _) ?_
          refine sim_let (v := iv a41.ways) ((O35.tab (A := Cell21) (s := c_.cells) 1 rfl).ld hm44 false 1 4) ?_
          refine sim_let (v := bv (decide (a41.ways = 0))) (aCmp_eq _ _) ?_
          refine sim_guardF (e := bv) (fun hb46 => ?_) (fun c47 => ?_)
          · refine sim_let (v := elp x_cells_ m42 0) (nc_elp _ _ _) ?_
            refine sim_let (v := elp x_cells_ m42 5) ((O35.tab (A := Cell21) (s := c_.cells) 1 rfl).fld _ _ _) ?_
            refine sim_let (v := iv a41.cost) ((O35.tab (A := Cell21) (s := c_.cells) 1 rfl).ld hm44 false 1 5) ?_
            refine sim_let (v := bv (decide ((wr ((wr (a1.cost + a11.cost)) + c45)) < a41.cost))) (aBin_lss _ _) ?_
            exact sim_ret rfl
          · refine sim_let (v := bv (bif decide (a41.ways = 0) then true else c47)) (pick_b' _ _ _) ?_
            refine sim_cond (fun c48 => ?_) (fun c48 => ?_)
            · refine sim_let (v := elp x_cells_ m42 0) (nc_elp _ _ _) ?_
              refine sim_let (v := elp x_cells_ m42 5) ((O35.tab (A := Cell21) (s := c_.cells) 1 rfl).fld _ _ _) ?_
              refine sim_set (A := Cell21) O35 1 (⟨⟨a41.box.x1, a41.box.y1, a41.box.x2, a41.box.y2⟩, a41.ways, wr ((wr (a1.cost + a11.cost)) + c45), a41.kind, a41.sign, a41.first, a41.rest⟩ : Cell21) rfl hi43 hm44 rfl (by simp) (by first | rfl | simp) (by first | rfl | simp [splice]) (fun h49 O50 => ?_)
              replace O50 : Hold B h49 [(AV.ptr o_ 1 0 0, .pt 2 [Sl.enc c_.list, x_cells_]), (x_cells_, obS ((setS c_.cells set_ (⟨⟨a41.box.x1, a41.box.y1, a41.box.x2, a41.box.y2⟩, a41.ways, wr ((wr (a1.cost + a11.cost)) + c45), a41.kind, a41.sign, a41.first, a41.rest⟩ : Cell21)) : Sl Cell21)), (AV.ptr o5 1 0 0, .pt 10 [iv a1.box.x1, iv a1.box.y1, iv a1.box.x2, iv a1.box.y2, iv a1.ways, iv a1.cost, iv a1.kind, iv a1.sign, iv a1.first, iv a1.rest]), (AV.ptr o15 1 0 0, .pt 10 [iv a11.box.x1, iv a11.box.y1, iv a11.box.x2, iv a11.box.y2, iv a11.ways, iv a11.cost, iv a11.kind, iv a11.sign, iv a11.first, iv a11.rest]), (AV.ptr o22 1 0 0, .pt 4 [iv a30.box.x1, iv a30.box.y1, iv a30.box.x2, iv a30.box.y2])] := O50
              refine sim_let (v := elp x_cells_ m42 0) (nc_elp _ _ _) ?_
              refine sim_let (v := elp x_cells_ m42 6) ((O50.tab (A := Cell21) (s := (setS c_.cells set_ (⟨⟨a41.box.x1, a41.box.y1, a41.box.x2, a41.box.y2⟩, a41.ways, wr ((wr (a1.cost + a11.cost)) + c45), a41.kind, a41.sign, a41.first, a41.rest⟩ : Cell21))) 1 rfl).fld _ _ _) ?_
              refine sim_set (A := Cell21) O50 1 (⟨⟨a41.box.x1, a41.box.y1, a41.box.x2, a41.box.y2⟩, a41.ways, wr ((wr (a1.cost + a11.cost)) + c45), kind_, a41.sign, a41.first, a41.rest⟩ : Cell21) rfl hi43 (setS_get hi43 hm44) rfl (by simp) (by first | rfl | simp) (by first | rfl | simp [splice]) (fun h51 O52 => ?_)
              rw [setS_set2] at O52
              replace O52 : Hold B h51 [(AV.ptr o_ 1 0 0, .pt 2 [Sl.enc c_.list, x_cells_]), (x_cells_, obS ((setS c_.cells set_ (⟨⟨a41.box.x1, a41.box.y1, a41.box.x2, a41.box.y2⟩, a41.ways, wr ((wr (a1.cost + a11.cost)) + c45), kind_, a41.sign, a41.first, a41.rest⟩ : Cell21)) : Sl Cell21)), (AV.ptr o5 1 0 0, .pt 10 [iv a1.box.x1, iv a1.box.y1, iv a1.box.x2, iv a1.box.y2, iv a1.ways, iv a1.cost, iv a1.kind, iv a1.sign, iv a1.first, iv a1.rest]), (AV.ptr o15 1 0 0, .pt 10 [iv a11.box.x1, iv a11.box.y1, iv a11.box.x2, iv a11.box.y2, iv a11.ways, iv a11.cost, iv a11.kind, iv a11.sign, iv a11.first, iv a11.rest]), (AV.ptr o22 1 0 0, .pt 4 [iv a30.box.x1, iv a30.box.y1, iv a30.box.x2, iv a30.box.y2])] := O52
              refine sim_let (v := elp x_cells_ m42 0) (nc_elp _ _ _) ?_
              refine sim_let (v := elp x_cells_ m42 7) ((O52.tab (A := Cell21) (s := (setS c_.cells set_ (⟨⟨a41.box.x1, a41.box.y1, a41.box.x2, a41.box.y2⟩, a41.ways, wr ((wr (a1.cost + a11.cost)) + c45), kind_, a41.sign, a41.first, a41.rest⟩ : Cell21))) 1 rfl).fld _ _ _) ?_
              refine sim_set (A := Cell21) O52 1 (⟨⟨a41.box.x1, a41.box.y1, a41.box.x2, a41.box.y2⟩, a41.ways, wr ((wr (a1.cost + a11.cost)) + c45), kind_, sign_, a41.first, a41.rest⟩ : Cell21) rfl hi43 (setS_get hi43 hm44) rfl (by simp) (by first | rfl | simp) (by first | rfl | simp [splice]) (fun h53 O54 => ?_)
              rw [setS_set2] at O54
              replace O54 : Hold B h53 [(AV.ptr o_ 1 0 0, .pt 2 [Sl.enc c_.list, x_cells_]), (x_cells_, obS ((setS c_.cells set_ (⟨⟨a41.box.x1, a41.box.y1, a41.box.x2, a41.box.y2⟩, a41.ways, wr ((wr (a1.cost + a11.cost)) + c45), kind_, sign_, a41.first, a41.rest⟩ : Cell21)) : Sl Cell21)), (AV.ptr o5 1 0 0, .pt 10 [iv a1.box.x1, iv a1.box.y1, iv a1.box.x2, iv a1.box.y2, iv a1.ways, iv a1.cost, iv a1.kind, iv a1.sign, iv a1.first, iv a1.rest]), (AV.ptr o15 1 0 0, .pt 10 [iv a11.box.x1, iv a11.box.y1, iv a11.box.x2, iv a11.box.y2, iv a11.ways, iv a11.cost, iv a11.kind, iv a11.sign, iv a11.first, iv a11.rest]), (AV.ptr o22 1 0 0, .pt 4 [iv a30.box.x1, iv a30.box.y1, iv a30.box.x2, iv a30.box.y2])] := O54
              refine sim_let (v := elp x_cells_ m42 0) (nc_elp _ _ _) ?_
              refine sim_let (v := elp x_cells_ m42 8) ((O54.tab (A := Cell21) (s := (setS c_.cells set_ (⟨⟨a41.box.x1, a41.box.y1, a41.box.x2, a41.box.y2⟩, a41.ways, wr ((wr (a1.cost + a11.cost)) + c45), kind_, sign_, a41.first, a41.rest⟩ : Cell21))) 1 rfl).fld _ _ _) ?_
              refine sim_set (A := Cell21) O54 1 (⟨⟨a41.box.x1, a41.box.y1, a41.box.x2, a41.box.y2⟩, a41.ways, wr ((wr (a1.cost + a11.cost)) + c45), kind_, sign_, first_, a41.rest⟩ : Cell21) rfl hi43 (setS_get hi43 hm44) rfl (by simp) (by first | rfl | simp) (by first | rfl | simp [splice]) (fun h55 O56 => ?_)
              rw [setS_set2] at O56
              replace O56 : Hold B h55 [(AV.ptr o_ 1 0 0, .pt 2 [Sl.enc c_.list, x_cells_]), (x_cells_, obS ((setS c_.cells set_ (⟨⟨a41.box.x1, a41.box.y1, a41.box.x2, a41.box.y2⟩, a41.ways, wr ((wr (a1.cost + a11.cost)) + c45), kind_, sign_, first_, a41.rest⟩ : Cell21)) : Sl Cell21)), (AV.ptr o5 1 0 0, .pt 10 [iv a1.box.x1, iv a1.box.y1, iv a1.box.x2, iv a1.box.y2, iv a1.ways, iv a1.cost, iv a1.kind, iv a1.sign, iv a1.first, iv a1.rest]), (AV.ptr o15 1 0 0, .pt 10 [iv a11.box.x1, iv a11.box.y1, iv a11.box.x2, iv a11.box.y2, iv a11.ways, iv a11.cost, iv a11.kind, iv a11.sign, iv a11.first, iv a11.rest]), (AV.ptr o22 1 0 0, .pt 4 [iv a30.box.x1, iv a30.box.y1, iv a30.box.x2, iv a30.box.y2])] := O56
              refine sim_let (v := elp x_cells_ m42 0) (nc_elp _ _ _) ?_
              refine sim_let (v := elp x_cells_ m42 9) ((O56.tab (A := Cell21) (s := (setS c_.cells set_ (⟨⟨a41.box.x1, a41.box.y1, a41.box.x2, a41.box.y2⟩, a41.ways, wr ((wr (a1.cost + a11.cost)) + c45), kind_, sign_, first_, a41.rest⟩ : Cell21))) 1 rfl).fld _ _ _) ?_
              refine sim_set (A := Cell21) O56 1 (⟨⟨a41.box.x1, a41.box.y1, a41.box.x2, a41.box.y2⟩, a41.ways, wr ((wr (a1.cost + a11.cost)) + c45), kind_, sign_, first_, rest_⟩ : Cell21) rfl hi43 (setS_get hi43 hm44) rfl (by simp) (by first | rfl | simp) (by first | rfl | simp [splice]) (fun h57 O58 => ?_)
              rw [setS_set2] at O58
              replace O58 : Hold B h57 [(AV.ptr o_ 1 0 0, .pt 2 [Sl.enc c_.list, x_cells_]), (x_cells_, obS ((setS c_.cells set_ (⟨⟨a41.box.x1, a41.box.y1, a41.box.x2, a41.box.y2⟩, a41.ways, wr ((wr (a1.cost + a11.cost)) + c45), kind_, sign_, first_, rest_⟩ : Cell21)) : Sl Cell21)), (AV.ptr o5 1 0 0, .pt 10 [iv a1.box.x1, iv a1.box.y1, iv a1.box.x2, iv a1.box.y2, iv a1.ways, iv a1.cost, iv a1.kind, iv a1.sign, iv a1.first, iv a1.rest]), (AV.ptr o15 1 0 0, .pt 10 [iv a11.box.x1, iv a11.box.y1, iv a11.box.x2, iv a11.box.y2, iv a11.ways, iv a11.cost, iv a11.kind, iv a11.sign, iv a11.first, iv a11.rest]), (AV.ptr o22 1 0 0, .pt 4 [iv a30.box.x1, iv a30.box.y1, iv a30.box.x2, iv a30.box.y2])] := O58
              refine sim_let (v := elp x_cells_ m42 0) (nc_elp _ _ _) ?_
              refine sim_let (v := elp x_cells_ m42 4) ((O58.tab (A := Cell21) (s := (setS c_.cells set_ (⟨⟨a41.box.x1, a41.box.y1, a41.box.x2, a41.box.y2⟩, a41.ways, wr ((wr (a1.cost + a11.cost)) + c45), kind_, sign_, first_, rest_⟩ : Cell21))) 1 rfl).fld _ _ _) ?_
              refine sim_let (v := iv a41.ways) ((O58.tab (A := Cell21) (s := (setS c_.cells set_ (⟨⟨a41.box.x1, a41.box.y1, a41.box.x2, a41.box.y2⟩, a41.ways, wr ((wr (a1.cost + a11.cost)) + c45), kind_, sign_, first_, rest_⟩ : Cell21))) 1 rfl).ld (setS_get hi43 hm44) false 1 4) ?_
              refine sim_let (v := iv (wr (a41.ways + (wr (a1.ways * a11.ways))))) (aBin_add _ _) ?_
              refine sim_let (v := elp x_cells_ m42 0) (nc_elp _ _ _) ?_
              refine sim_let (v := elp x_cells_ m42 4) ((O58.tab (A := Cell21) (s := (setS c_.cells set_ (⟨⟨a41.box.x1, a41.box.y1, a41.box.x2, a41.box.y2⟩, a41.ways, wr ((wr (a1.cost + a11.cost)) + c45), kind_, sign_, first_, rest_⟩ : Cell21))) 1 rfl).fld _ _ _) ?_
              refine sim_set (A := Cell21) O58 1 (⟨⟨a41.box.x1, a41.box.y1, a41.box.x2, a41.box.y2⟩, wr (a41.ways + (wr (a1.ways * a11.ways))), wr ((wr (a1.cost + a11.cost)) + c45), kind_, sign_, first_, rest_⟩ : Cell21) rfl hi43 (setS_get hi43 hm44) rfl (by simp) (by first | rfl | simp) (by first | rfl | simp [splice]) (fun h59 O60 => ?_)
              rw [setS_set2] at O60
              replace O60 : Hold B h59 [(AV.ptr o_ 1 0 0, .pt 2 [Sl.enc c_.list, x_cells_]), (x_cells_, obS ((setS c_.cells set_ (⟨⟨a41.box.x1, a41.box.y1, a41.box.x2, a41.box.y2⟩, wr (a41.ways + (wr (a1.ways * a11.ways))), wr ((wr (a1.cost + a11.cost)) + c45), kind_, sign_, first_, rest_⟩ : Cell21)) : Sl Cell21)), (AV.ptr o5 1 0 0, .pt 10 [iv a1.box.x1, iv a1.box.y1, iv a1.box.x2, iv a1.box.y2, iv a1.ways, iv a1.cost, iv a1.kind, iv a1.sign, iv a1.first, iv a1.rest]), (AV.ptr o15 1 0 0, .pt 10 [iv a11.box.x1, iv a11.box.y1, iv a11.box.x2, iv a11.box.y2, iv a11.ways, iv a11.cost, iv a11.kind, iv a11.sign, iv a11.first, iv a11.rest]), (AV.ptr o22 1 0 0, .pt 4 [iv a30.box.x1, iv a30.box.y1, iv a30.box.x2, iv a30.box.y2])] := O60
              have O61 : Hold B h59 [(AV.ptr o_ 1 0 0, .pt 2 [Sl.enc c_.list, x_cells_]), (x_cells_, obS ((setS c_.cells set_ (⟨⟨a41.box.x1, a41.box.y1, a41.box.x2, a41.box.y2⟩, wr (a41.ways + (wr (a1.ways * a11.ways))), wr ((wr (a1.cost + a11.cost)) + c45), kind_, sign_, first_, rest_⟩ : Cell21)) : Sl Cell21))] := O60.sel [0, 1] (by decide) rfl
              exact sim_ret ⟨_, rfl, O61⟩
            · refine sim_let (v := elp x_cells_ m42 0) (nc_elp _ _ _) ?_
              refine sim_let (v := elp x_cells_ m42 4) ((O35.tab (A := Cell21) (s := c_.cells) 1 rfl).fld _ _ _) ?_
              refine sim_let (v := iv a41.ways) ((O35.tab (A := Cell21) (s := c_.cells) 1 rfl).ld hm44 false 1 4) ?_
              refine sim_let (v := iv (wr (a41.ways + (wr (a1.ways * a11.ways))))) (aBin_add _ _) ?_
              refine sim_let (v := elp x_cells_ m42 0) (nc_elp _ _ _) ?_
              refine sim_let (v := elp x_cells_ m42 4) ((O35.tab (A := Cell21) (s := c_.cells) 1 rfl).fld _ _ _) ?_
              refine sim_set (A := Cell21) O35 1 (⟨⟨a41.box.x1, a41.box.y1, a41.box.x2, a41.box.y2⟩, wr (a41.ways + (wr (a1.ways * a11.ways))), a41.cost, a41.kind, a41.sign, a41.first, a41.rest⟩ : Cell21) rfl hi43 hm44 rfl (by simp) (by first | rfl | simp) (by first | rfl | simp [splice]) (fun h62 O63 => ?_)
              replace O63 : Hold B h62 [(AV.ptr o_ 1 0 0, .pt 2 [Sl.enc c_.list, x_cells_]), (x_cells_, obS ((setS c_.cells set_ (⟨⟨a41.box.x1, a41.box.y1, a41.box.x2, a41.box.y2⟩, wr (a41.ways + (wr (a1.ways * a11.ways))), a41.cost, a41.kind, a41.sign, a41.first, a41.rest⟩ : Cell21)) : Sl Cell21)), (AV.ptr o5 1 0 0, .pt 10 [iv a1.box.x1, iv a1.box.y1, iv a1.box.x2, iv a1.box.y2, iv a1.ways, iv a1.cost, iv a1.kind, iv a1.sign, iv a1.first, iv a1.rest]), (AV.ptr o15 1 0 0, .pt 10 [iv a11.box.x1, iv a11.box.y1, iv a11.box.x2, iv a11.box.y2, iv a11.ways, iv a11.cost, iv a11.kind, iv a11.sign, iv a11.first, iv a11.rest]), (AV.ptr o22 1 0 0, .pt 4 [iv a30.box.x1, iv a30.box.y1, iv a30.box.x2, iv a30.box.y2])] := O63
              have O64 : Hold B h62 [(AV.ptr o_ 1 0 0, .pt 2 [Sl.enc c_.list, x_cells_]), (x_cells_, obS ((setS c_.cells set_ (⟨⟨a41.box.x1, a41.box.y1, a41.box.x2, a41.box.y2⟩, wr (a41.ways + (wr (a1.ways * a11.ways))), a41.cost, a41.kind, a41.sign, a41.first, a41.rest⟩ : Cell21)) : Sl Cell21))] := O63.sel [0, 1] (by decide) rfl
              exact sim_ret ⟨_, rfl, O64⟩
    · refine sim_let (v := bv (decide (wr (a1.ways * a11.ways) = 0))) (aCmp_eq _ _) ?_
      refine sim_guardF (e := bv) (fun hb65 => ?_) (fun c67 => ?_)
      · refine sim_let (v := AV.agg [iv 0, iv 0, iv 0, iv 0]) (O27.ld 4 rfl true 4 0) ?_
        refine sim_let (v := AV.ptr o5 1 0 0) rfl ?_
        refine sim_let (v := AV.agg [iv a1.box.x1, iv a1.box.y1, iv a1.box.x2, iv a1.box.y2]) (O27.ld 2 rfl true 4 0) ?_
        refine sim_let (v := AV.ptr o15 1 0 0) rfl ?_
        refine sim_let (v := AV.agg [iv a11.box.x1, iv a11.box.y1, iv a11.box.x2, iv a11.box.y2]) (O27.ld 3 rfl true 4 0) ?_
        refine sim_call4 he_spec_l21Fits (snapD_int _ _) (snapD_nr _ (⟨0, 0, 0, 0⟩ : Box) rfl) (snapD_nr _ a1.box rfl) (snapD_nr _ a11.box rfl) (fun c66 => ?_)
        refine sim_let2 (hand_plain (by rfl) _ _) ?_
        refine sim_let (v := bv (!c66)) (aUn_not _) ?_
        exact sim_ret rfl
      · refine sim_let (v := bv (bif decide (wr (a1.ways * a11.ways) = 0) then true else c67)) (pick_b' _ _ _) ?_
        refine sim_cond (fun c68 => ?_) (fun c68 => ?_)
        · have O69 : Hold B h26 [(AV.ptr o_ 1 0 0, .pt 2 [Sl.enc c_.list, x_cells_]), (x_cells_, obS (c_.cells : Sl Cell21))] := O27.sel [0, 1] (by decide) rfl
          exact sim_ret ⟨_, rfl, O69⟩
        · refine sim_let (v := AV.ptr o_ 1 0 0) rfl ?_
          refine sim_let (v := AV.ptr o_ 1 0 1) rfl ?_
          refine sim_let (v := x_cells_) (O27.ld 0 rfl false 1 1) ?_
          refine sim_get (O27.tab (A := Cell21) (s := c_.cells) 1 rfl) (fun m71 a70 hi72 hm73 => ?_)
          refine sim_let (v := AV.ptr o5 1 0 5) rfl ?_
          refine sim_let (v := iv a1.cost) (O27.ld 2 rfl false 1 5) ?_
          refine sim_let (v := AV.ptr o15 1 0 5) rfl ?_
          refine sim_let (v := iv a11.cost) (O27.ld 3 rfl false 1 5) ?_
          refine sim_let (v := iv (wr (a1.cost + a11.cost))) (aBin_add _ _) ?_
          refine sim_let (v := AV.agg [iv 0, iv 0, iv 0, iv 0]) (O27.ld 4 rfl true 4 0) ?_
          refine sim_let (v := AV.ptr o5 1 0 0) rfl ?_
          refine sim_let (v := AV.agg [iv a1.box.x1, iv a1.box.y1, iv a1.box.x2, iv a1.box.y2]) (O27.ld 2 rfl true 4 0) ?_
          refine sim_let (v := AV.ptr o15 1 0 0) rfl ?_
          refine sim_let (v := AV.agg [iv a11.box.x1, iv a11.box.y1, iv a11.box.x2, iv a11.box.y2]) (O27.ld 3 rfl true 4 0) ?_
          refine sim_callQ4 he_spec_l21Own (snapD_int _ _) (snapD_nr _ (⟨0, 0, 0, 0⟩ : Box) rfl) (snapD_nr _ a1.box rfl) (snapD_nr _ a11.box rfl) (fun c74 => ?_)
          refine sim_let2 (hand_plain (by rfl) _ _) ?_
          refine sim_let (v := iv (wr ((wr (a1.cost + a11.cost)) + c74))) (aBin_add _ _) ?_
          refine sim_let (v := elp x_cells_ m71 0) (nc_elp _ _ _) ?_
          refine sim_let (v := elp x_cells_ m71 4) ((O27.tab (A := Cell21) (s := c_.cells) 1 rfl).fld _ _ _) ?_
          refine sim_let (v := iv a70.ways) ((O27.tab (A := Cell21) (s := c_.cells) 1 rfl).ld hm73 false 1 4) ?_
          refine sim_let (v := bv (decide (a70.ways = 0))) (aCmp_eq _ _) ?_
          refine sim_guardF (e := bv) (fun hb75 => ?_) (fun c76 => ?_)
          · refine sim_let (v := elp x_cells_ m71 0) (nc_elp _ _ _) ?_
            refine sim_let (v := elp x_cells_ m71 5) ((O27.tab (A := Cell21) (s := c_.cells) 1 rfl).fld _ _ _) ?_
            refine sim_let (v := iv a70.cost) ((O27.tab (A := Cell21) (s := c_.cells) 1 rfl).ld hm73 false 1 5) ?_
            refine sim_let (v := bv (decide ((wr ((wr (a1.cost + a11.cost)) + c74)) < a70.cost))) (aBin_lss _ _) ?_
            exact sim_ret rfl
          · refine sim_let (v := bv (bif decide (a70.ways = 0) then true else c76)) (pick_b' _ _ _) ?_
            refine sim_cond (fun c77 => ?_) (fun c77 => ?_)
            · refine sim_let (v := elp x_cells_ m71 0) (nc_elp _ _ _) ?_
              refine sim_let (v := elp x_cells_ m71 5) ((O27.tab (A := Cell21) (s := c_.cells) 1 rfl).fld _ _ _) ?_
              refine sim_set (A := Cell21) O27 1 (⟨⟨a70.box.x1, a70.box.y1, a70.box.x2, a70.box.y2⟩, a70.ways, wr ((wr (a1.cost + a11.cost)) + c74), a70.kind, a70.sign, a70.first, a70.rest⟩ : Cell21) rfl hi72 hm73 rfl (by simp) (by first | rfl | simp) (by first | rfl | simp [splice]) (fun h78 O79 => ?_)
              replace O79 : Hold B h78 [(AV.ptr o_ 1 0 0, .pt 2 [Sl.enc c_.list, x_cells_]), (x_cells_, obS ((setS c_.cells set_ (⟨⟨a70.box.x1, a70.box.y1, a70.box.x2, a70.box.y2⟩, a70.ways, wr ((wr (a1.cost + a11.cost)) + c74), a70.kind, a70.sign, a70.first, a70.rest⟩ : Cell21)) : Sl Cell21)), (AV.ptr o5 1 0 0, .pt 10 [iv a1.box.x1, iv a1.box.y1, iv a1.box.x2, iv a1.box.y2, iv a1.ways, iv a1.cost, iv a1.kind, iv a1.sign, iv a1.first, iv a1.rest]), (AV.ptr o15 1 0 0, .pt 10 [iv a11.box.x1, iv a11.box.y1, iv a11.box.x2, iv a11.box.y2, iv a11.ways, iv a11.cost, iv a11.kind, iv a11.sign, iv a11.first, iv a11.rest]), (AV.ptr o22 1 0 0, .pt 4 [iv 0, iv 0, iv 0, iv 0])] := O79
              refine sim_let (v := elp x_cells_ m71 0) (nc_elp _ _ _) ?_
              refine sim_let (v := elp x_cells_ m71 6) ((O79.tab (A := Cell21) (s := (setS c_.cells set_ (⟨⟨a70.box.x1, a70.box.y1, a70.box.x2, a70.box.y2⟩, a70.ways, wr ((wr (a1.cost + a11.cost)) + c74), a70.kind, a70.sign, a70.first, a70.rest⟩ : Cell21))) 1 rfl).fld _ _ _) ?_
              refine sim_set (A := Cell21) O79 1 (⟨⟨a70.box.x1, a70.box.y1, a70.box.x2, a70.box.y2⟩, a70.ways, wr ((wr (a1.cost + a11.cost)) + c74), kind_, a70.sign, a70.first, a70.rest⟩ : Cell21) rfl hi72 (setS_get hi72 hm73) rfl (by simp) (by first | rfl | simp) (by first | rfl | simp [splice]) (fun h80 O81 => ?_)
              rw [setS_set2] at O81
              replace O81 : Hold B h80 [(AV.ptr o_ 1 0 0, .pt 2 [Sl.enc c_.list, x_cells_]), (x_cells_, obS ((setS c_.cells set_ (⟨⟨a70.box.x1, a70.box.y1, a70.box.x2, a70.box.y2⟩, a70.ways, wr ((wr (a1.cost + a11.cost)) + c74), kind_, a70.sign, a70.first, a70.rest⟩ : Cell21)) : Sl Cell21)), (AV.ptr o5 1 0 0, .pt 10 [iv a1.box.x1, iv a1.box.y1, iv a1.box.x2, iv a1.box.y2, iv a1.ways, iv a1.cost, iv a1.kind, iv a1.sign, iv a1.first, iv a1.rest]), (AV.ptr o15 1 0 0, .pt 10 [iv a11.box.x1, iv a11.box.y1, iv a11.box.x2, iv a11.box.y2, iv a11.ways, iv a11.cost, iv a11.kind, iv a11.sign, iv a11.first, iv a11.rest]), (AV.ptr o22 1 0 0, .pt 4 [iv 0, iv 0, iv 0, iv 0])] := O81
              refine sim_let (v := elp x_cells_ m71 0) (nc_elp _ _ _) ?_
              refine sim_let (v := elp x_cells_ m71 7) ((O81.tab (A := Cell21) (s := (setS c_.cells set_ (⟨⟨a70.box.x1, a70.box.y1, a70.box.x2, a70.box.y2⟩, a70.ways, wr ((wr (a1.cost + a11.cost)) + c74), kind_, a70.sign, a70.first, a70.rest⟩ : Cell21))) 1 rfl).fld _ _ _) ?_
              refine sim_set (A := Cell21) O81 1 (⟨⟨a70.box.x1, a70.box.y1, a70.box.x2, a70.box.y2⟩, a70.ways, wr ((wr (a1.cost + a11.cost)) + c74), kind_, sign_, a70.first, a70.rest⟩ : Cell21) rfl hi72 (setS_get hi72 hm73) rfl (by simp) (by first | rfl | simp) (by first | rfl | simp [splice]) (fun h82 O83 => ?_)
              rw [setS_set2] at O83
              replace O83 : Hold B h82 [(AV.ptr o_ 1 0 0, .pt 2 [Sl.enc c_.list, x_cells_]), (x_cells_, obS ((setS c_.cells set_ (⟨⟨a70.box.x1, a70.box.y1, a70.box.x2, a70.box.y2⟩, a70.ways, wr ((wr (a1.cost + a11.cost)) + c74), kind_, sign_, a70.first, a70.rest⟩ : Cell21)) : Sl Cell21)), (AV.ptr o5 1 0 0, .pt 10 [iv a1.box.x1, iv a1.box.y1, iv a1.box.x2, iv a1.box.y2, iv a1.ways, iv a1.cost, iv a1.kind, iv a1.sign, iv a1.first, iv a1.rest]), (AV.ptr o15 1 0 0, .pt 10 [iv a11.box.x1, iv a11.box.y1, iv a11.box.x2, iv a11.box.y2, iv a11.ways, iv a11.cost, iv a11.kind, iv a11.sign, iv a11.first, iv a11.rest]), (AV.ptr o22 1 0 0, .pt 4 [iv 0, iv 0, iv 0, iv 0])] := O83
              refine sim_let (v := elp x_cells_ m71 0) (nc_elp _ _ _) ?_
              refine sim_let (v := elp x_cells_ m71 8) ((O83.tab (A := Cell21) (s := (setS c_.cells set_ (⟨⟨a70.box.x1, a70.box.y1, a70.box.x2, a70.box.y2⟩, a70.ways, wr ((wr (a1.cost + a11.cost)) + c74), kind_, sign_, a70.first, a70.rest⟩ : Cell21))) 1 rfl).fld _ _ _) ?_
              refine sim_set (A := Cell21) O83 1 (⟨⟨a70.box.x1, a70.box.y1, a70.box.x2, a70.box.y2⟩, a70.ways, wr ((wr (a1.cost + a11.cost)) + c74), kind_, sign_, first_, a70.rest⟩ : Cell21) rfl hi72 (setS_get hi72 hm73) rfl (by simp) (by first | rfl | simp) (by first | rfl | simp [splice]) (fun h84 O85 => ?_)
              rw [setS_set2] at O85
              replace O85 : Hold B h84 [(AV.ptr o_ 1 0 0, .pt 2 [Sl.enc c_.list, x_cells_]), (x_cells_, obS ((setS c_.cells set_ (⟨⟨a70.box.x1, a70.box.y1, a70.box.x2, a70.box.y2⟩, a70.ways, wr ((wr (a1.cost + a11.cost)) + c74), kind_, sign_, first_, a70.rest⟩ : Cell21)) : Sl Cell21)), (AV.ptr o5 1 0 0, .pt 10 [iv a1.box.x1, iv a1.box.y1, iv a1.box.x2, iv a1.box.y2, iv a1.ways, iv a1.cost, iv a1.kind, iv a1.sign, iv a1.first, iv a1.rest]), (AV.ptr o15 1 0 0, .pt 10 [iv a11.box.x1, iv a11.box.y1, iv a11.box.x2, iv a11.box.y2, iv a11.ways, iv a11.cost, iv a11.kind, iv a11.sign, iv a11.first, iv a11.rest]), (AV.ptr o22 1 0 0, .pt 4 [iv 0, iv 0, iv 0, iv 0])] := O85
              refine sim_let (v := elp x_cells_ m71 0) (nc_elp _ _ _) ?_
              refine sim_let (v := elp x_cells_ m71 9) ((O85.tab (A := Cell21) (s := (setS c_.cells set_ (⟨⟨a70.box.x1, a70.box.y1, a70.box.x2, a70.box.y2⟩, a70.ways, wr ((wr (a1.cost + a11.cost)) + c74), kind_, sign_, first_, a70.rest⟩ : Cell21))) 1 rfl).fld _ _ _) ?_
              refine sim_set (A := Cell21) O85 1 (⟨⟨a70.box.x1, a70.box.y1, a70.box.x2, a70.box.y2⟩, a70.ways, wr ((wr (a1.cost + a11.cost)) + c74), kind_, sign_, first_, rest_⟩ : Cell21) rfl hi72 (setS_get hi72 hm73) rfl (by simp) (by first | rfl | simp) (by first | rfl | simp [splice]) (fun h86 O87 => ?_)
              rw [setS_set2] at O87
              replace O87 : Hold B h86 [(AV.ptr o_ 1 0 0, .pt 2 [Sl.enc c_.list, x_cells_]), (x_cells_, obS ((setS c_.cells set_ (⟨⟨a70.box.x1, a70.box.y1, a70.box.x2, a70.box.y2⟩, a70.ways, wr ((wr (a1.cost + a11.cost)) + c74), kind_, sign_, first_, rest_⟩ : Cell21)) : Sl Cell21)), (AV.ptr o5 1 0 0, .pt 10 [iv a1.box.x1, iv a1.box.y1, iv a1.box.x2, iv a1.box.y2, iv a1.ways, iv a1.cost, iv a1.kind, iv a1.sign, iv a1.first, iv a1.rest]), (AV.ptr o15 1 0 0, .pt 10 [iv a11.box.x1, iv a11.box.y1, iv a11.box.x2, iv a11.box.y2, iv a11.ways, iv a11.cost, iv a11.kind, iv a11.sign, iv a11.first, iv a11.rest]), (AV.ptr o22 1 0 0, .pt 4 [iv 0, iv 0, iv 0, iv 0])] := O87
              refine sim_let (v := elp x_cells_ m71 0) (nc_elp _ _ _) ?_
              refine sim_let (v := elp x_cells_ m71 4) ((O87.tab (A := Cell21) (s := (setS c_.cells set_ (⟨⟨a70.box.x1, a70.box.y1, a70.box.x2, a70.box.y2⟩, a70.ways, wr ((wr (a1.cost + a11.cost)) + c74), kind_, sign_, first_, rest_⟩ : Cell21))) 1 rfl).fld _ _ _) ?_
              refine sim_let (v := iv a70.ways) ((O87.tab (A := Cell21) (s := (setS c_.cells set_ (⟨⟨a70.box.x1, a70.box.y1, a70.box.x2, a70.box.y2⟩, a70.ways, wr ((wr (a1.cost + a11.cost)) + c74), kind_, sign_, first_, rest_⟩ : Cell21))) 1 rfl).ld (setS_get hi72 hm73) false 1 4) ?_
              refine sim_let (v := iv (wr (a70.ways + (wr (a1.ways * a11.ways))))) (aBin_add _ _) ?_
              refine sim_let (v := elp x_cells_ m71 0) (nc_elp _ _ _) ?_
              refine sim_let (v := elp x_cells_ m71 4) ((O87.tab (A := Cell21) (s := (setS c_.cells set_ (⟨⟨a70.box.x1, a70.box.y1, a70.box.x2, a70.box.y2⟩, a70.ways, wr ((wr (a1.cost + a11.cost)) + c74), kind_, sign_, first_, rest_⟩ : Cell21))) 1 rfl).fld _ _ _) ?_
              refine sim_set (A := Cell21) O87 1 (⟨⟨a70.box.x1, a70.box.y1, a70.box.x2, a70.box.y2⟩, wr (a70.ways + (wr (a1.ways * a11.ways))), wr ((wr (a1.cost + a11.cost)) + c74), kind_, sign_, first_, rest_⟩ : Cell21) rfl hi72 (setS_get hi72 hm73) rfl (by simp) (by first | rfl | simp) (by first | rfl | simp [splice]) (fun h88 O89 => ?_)
              rw [setS_set2] at O89
              replace O89 : Hold B h88 [(AV.ptr o_ 1 0 0, .pt 2 [Sl.enc c_.list, x_cells_]), (x_cells_, obS ((setS c_.cells set_ (⟨⟨a70.box.x1, a70.box.y1, a70.box.x2, a70.box.y2⟩, wr (a70.ways + (wr (a1.ways * a11.ways))), wr ((wr (a1.cost + a11.cost)) + c74), kind_, sign_, first_, rest_⟩ : Cell21)) : Sl Cell21)), (AV.ptr o5 1 0 0, .pt 10 [iv a1.box.x1, iv a1.box.y1, iv a1.box.x2, iv a1.box.y2, iv a1.ways, iv a1.cost, iv a1.kind, iv a1.sign, iv a1.first, iv a1.rest]), (AV.ptr o15 1 0 0, .pt 10 [iv a11.box.x1, iv a11.box.y1, iv a11.box.x2, iv a11.box.y2, iv a11.ways, iv a11.cost, iv a11.kind, iv a11.sign, iv a11.first, iv a11.rest]), (AV.ptr o22 1 0 0, .pt 4 [iv 0, iv 0, iv 0, iv 0])] := O89
              have O90 : Hold B h88 [(AV.ptr o_ 1 0 0, .pt 2 [Sl.enc c_.list, x_cells_]), (x_cells_, obS ((setS c_.cells set_ (⟨⟨a70.box.x1, a70.box.y1, a70.box.x2, a70.box.y2⟩, wr (a70.ways + (wr (a1.ways * a11.ways))), wr ((wr (a1.cost + a11.cost)) + c74), kind_, sign_, first_, rest_⟩ : Cell21)) : Sl Cell21))] := O89.sel [0, 1] (by decide) rfl
              exact sim_ret ⟨_, rfl, O90⟩
            · refine sim_let (v := elp x_cells_ m71 0) (nc_elp _ _ _) ?_
              refine sim_let (v := elp x_cells_ m71 4) ((O27.tab (A := Cell21) (s := c_.cells) 1 rfl).fld _ _ _) ?_
              refine sim_let (v := iv a70.ways) ((O27.tab (A := Cell21) (s := c_.cells) 1 rfl).ld hm73 false 1 4) ?_
              refine sim_let (v := iv (wr (a70.ways + (wr (a1.ways * a11.ways))))) (aBin_add _ _) ?_
              refine sim_let (v := elp x_cells_ m71 0) (nc_elp _ _ _) ?_
              refine sim_let (v := elp x_cells_ m71 4) ((O27.tab (A := Cell21) (s := c_.cells) 1 rfl).fld _ _ _) ?_
              refine sim_set (A := Cell21) O27 1 (⟨⟨a70.box.x1, a70.box.y1, a70.box.x2, a70.box.y2⟩, wr (a70.ways + (wr (a1.ways * a11.ways))), a70.cost, a70.kind, a70.sign, a70.first, a70.rest⟩ : Cell21) rfl hi72 hm73 rfl (by simp) (by first | rfl | simp) (by first | rfl | simp [splice]) (fun h91 O92 => ?_)
              replace O92 : Hold B h91 [(AV.ptr o_ 1 0 0, .pt 2 [Sl.enc c_.list, x_cells_]), (x_cells_, obS ((setS c_.cells set_ (⟨⟨a70.box.x1, a70.box.y1, a70.box.x2, a70.box.y2⟩, wr (a70.ways + (wr (a1.ways * a11.ways))), a70.cost, a70.kind, a70.sign, a70.first, a70.rest⟩ : Cell21)) : Sl Cell21)), (AV.ptr o5 1 0 0, .pt 10 [iv a1.box.x1, iv a1.box.y1, iv a1.box.x2, iv a1.box.y2, iv a1.ways, iv a1.cost, iv a1.kind, iv a1.sign, iv a1.first, iv a1.rest]), (AV.ptr o15 1 0 0, .pt 10 [iv a11.box.x1, iv a11.box.y1, iv a11.box.x2, iv a11.box.y2, iv a11.ways, iv a11.cost, iv a11.kind, iv a11.sign, iv a11.first, iv a11.rest]), (AV.ptr o22 1 0 0, .pt 4 [iv 0, iv 0, iv 0, iv 0])] := O92
              have O93 : Hold B h91 [(AV.ptr o_ 1 0 0, .pt 2 [Sl.enc c_.list, x_cells_]), (x_cells_, obS ((setS c_.cells set_ (⟨⟨a70.box.x1, a70.box.y1, a70.box.x2, a70.box.y2⟩, wr (a70.ways + (wr (a1.ways * a11.ways))), a70.cost, a70.kind, a70.sign, a70.first, a70.rest⟩ : Cell21)) : Sl Cell21))] := O92.sel [0, 1] (by decide) rfl
              exact sim_ret ⟨_, rfl, O93⟩
  · refine sim_let (v := AV.agg [iv 0, iv 0, iv 0, iv 0]) (by first | rfl | simp [aBuild, aFill, splice]) ?_
    refine sim_box O20 (cs := [iv 0, iv 0, iv 0, iv 0]) (by first | rfl | simp) (fun o94 h95 O96 => ?_)
    replace O96 : Hold B h95 [(AV.ptr o_ 1 0 0, .pt 2 [Sl.enc c_.list, x_cells_]), (x_cells_, obS (c_.cells : Sl Cell21)), (AV.ptr o5 1 0 0, .pt 10 [iv a1.box.x1, iv a1.box.y1, iv a1.box.x2, iv a1.box.y2, iv a1.ways, iv a1.cost, iv a1.kind, iv a1.sign, iv a1.first, iv a1.rest]), (AV.ptr o15 1 0 0, .pt 10 [iv a11.box.x1, iv a11.box.y1, iv a11.box.x2, iv a11.box.y2, iv a11.ways, iv a11.cost, iv a11.kind, iv a11.sign, iv a11.first, iv a11.rest]), (AV.ptr o94 1 0 0, .pt 4 [iv 0, iv 0, iv 0, iv 0])] := O96
    refine sim_store O96 4 (cs' := [iv 0, iv 0, iv 0, iv 0]) rfl (by first | rfl | simp) (by simp) (by first | rfl | simp) (by first | rfl | simp [splice]) (fun h98 O99 => ?_)
    replace O99 : Hold B h98 [(AV.ptr o_ 1 0 0, .pt 2 [Sl.enc c_.list, x_cells_]), (x_cells_, obS (c_.cells : Sl Cell21)), (AV.ptr o5 1 0 0, .pt 10 [iv a1.box.x1, iv a1.box.y1, iv a1.box.x2, iv a1.box.y2, iv a1.ways, iv a1.cost, iv a1.kind, iv a1.sign, iv a1.first, iv a1.rest]), (AV.ptr o15 1 0 0, .pt 10 [iv a11.box.x1, iv a11.box.y1, iv a11.box.x2, iv a11.box.y2, iv a11.ways, iv a11.cost, iv a11.kind, iv a11.sign, iv a11.first, iv a11.rest]), (AV.ptr o94 1 0 0, .pt 4 [iv 0, iv 0, iv 0, iv 0])] := O99
    refine sim_call1 he_spec_l21Label (snapD_int _ _) (fun c100 => ?_)
    refine sim_let2 (hand_plain (by rfl) _ _) ?_
    refine sim_let (v := bv (!decide (c100 = (⟨#[]⟩ : ByteArray)))) (aCmp_neS _ _) ?_
    refine sim_cond (fun c101 => ?_) (fun c101 => ?_)
    · refine sim_let (v := AV.ptr o_ 1 0 0) rfl ?_
      refine sim_let (v := AV.ptr o_ 1 0 0) rfl ?_
      refine sim_let (v := Sl.enc c_.list) (O99.ld 0 rfl false 1 0) ?_
      refine sim_get (Tab.enc h98 c_.list) (fun m103 a102 hi104 hm105 => ?_)
      refine sim_let (v := elp (Sl.enc c_.list) m103 1) ((Tab.enc h98 c_.list).fld _ _ _) ?_
      refine sim_let (v := AV.agg [iv a102.box.x1, iv a102.box.y1, iv a102.box.x2, iv a102.box.y2]) ((Tab.enc h98 c_.list).ld hm105 true 4 1) ?_
      refine sim_store O99 4 (cs' := [iv a102.box.x1, iv a102.box.y1, iv a102.box.x2, iv a102.box.y2]) rfl (by first | rfl | simp) (by simp) (by first | rfl | simp) (by first | rfl | simp [splice]) (fun h106 O107 => ?_)
      replace O107 : Hold B h106 [(AV.ptr o_ 1 0 0, .pt 2 [Sl.enc c_.list, x_cells_]), (x_cells_, obS (c_.cells : Sl Cell21)), (AV.ptr o5 1 0 0, .pt 10 [iv a1.box.x1, iv a1.box.y1, iv a1.box.x2, iv a1.box.y2, iv a1.ways, iv a1.cost, iv a1.kind, iv a1.sign, iv a1.first, iv a1.rest]), (AV.ptr o15 1 0 0, .pt 10 [iv a11.box.x1, iv a11.box.y1, iv a11.box.x2, iv a11.box.y2, iv a11.ways, iv a11.cost, iv a11.kind, iv a11.sign, iv a11.first, iv a11.rest]), (AV.ptr o94 1 0 0, .pt 4 [iv a102.box.x1, iv a102.box.y1, iv a102.box.x2, iv a102.box.y2])] := O107
      refine sim_let (v := bv (decide (a1.ways = 0))) (aCmp_eq _ _) ?_
      refine sim_guardF (e := bv) (fun hb108 => ?_) (fun c110 => ?_)
      · refine sim_let (v := AV.agg [iv a102.box.x1, iv a102.box.y1, iv a102.box.x2, iv a102.box.y2]) (O107.ld 4 rfl true 4 0) ?_
        refine sim_let (v := AV.ptr o5 1 0 0) rfl ?_
        refine sim_let (v := AV.agg [iv a1.box.x1, iv a1.box.y1, iv a1.box.x2, iv a1.box.y2]) (O107.ld 2 rfl true 4 0) ?_
        refine sim_let (v := AV.ptr o15 1 0 0) rfl ?_
        refine sim_let (v := AV.agg [iv a11.box.x1, iv a11.box.y1, iv a11.box.x2, iv a11.box.y2]) (O107.ld 3 rfl true 4 0) ?_
        refine sim_call4 he_spec_l21Fits (snapD_int _ _) (snapD_nr _ a102.box rfl) (snapD_nr _ a1.box rfl) (snapD_nr _ a11.box rfl) (fun c109 => ?_)
        refine sim_let2 (hand_plain (by rfl) _ _) ?_
        refine sim_let (v := bv (!c109)) (aUn_not _) ?_
        exact sim_ret rfl
      · refine sim_let (v := bv (bif decide (a1.ways = 0) then true else c110)) (pick_b' _ _ _) ?_
        refine sim_cond (fun c111 => ?_) (fun c111 => ?_)
        · have O112 : Hold B h106 [(AV.ptr o_ 1 0 0, .pt 2 [Sl.enc c_.list, x_cells_]), (x_cells_, obS (c_.cells : Sl Cell21))] := O107.sel [0, 1] (by decide) rfl
          exact sim_ret ⟨_, rfl, O112⟩
        · refine sim_let (v := AV.ptr o_ 1 0 0) rfl ?_
          refine sim_let (v := AV.ptr o_ 1 0 1) rfl ?_
          refine sim_let (v := x_cells_) (O107.ld 0 rfl false 1 1) ?_
          refine sim_get (O107.tab (A := Cell21) (s := c_.cells) 1 rfl) (fun m114 a113 hi115 hm116 => ?_)
          refine sim_let (v := AV.ptr o5 1 0 5) rfl ?_
          refine sim_let (v := iv a1.cost) (O107.ld 2 rfl false 1 5) ?_
          refine sim_let (v := AV.ptr o15 1 0 5) rfl ?_
          refine sim_let (v := iv a11.cost) (O107.ld 3 rfl false 1 5) ?_
          refine sim_let (v := iv (wr (a1.cost + a11.cost))) (aBin_add _ _) ?_
          refine sim_let (v := AV.agg [iv a102.box.x1, iv a102.box.y1, iv a102.box.x2, iv a102.box.y2]) (O107.ld 4 rfl true 4 0) ?_
          refine sim_let (v := AV.ptr o5 1 0 0) rfl ?_
          refine sim_let (v := AV.agg [iv a1.box.x1, iv a1.box.y1, iv a1.box.x2, iv a1.box.y2]) (O107.ld 2 rfl true 4 0) ?_
          refine sim_let (v := AV.ptr o15 1 0 0) rfl ?_
          refine sim_let (v := AV.agg [iv a11.box.x1, iv a11.box.y1, iv a11.box.x2, iv a11.box.y2]) (O107.ld 3 rfl true 4 0) ?_
          refine sim_callQ4 he_spec_l21Own (snapD_int _ _) (snapD_nr _ a102.box rfl) (snapD_nr _ a1.box rfl) (snapD_nr _ a11.box rfl) (fun c117 => ?_)
          refine sim_let2 (hand_plain (by rfl) _ _) ?_
          refine sim_let (v := iv (wr ((wr (a1.cost + a11.cost)) + c117))) (aBin_add _ _) ?_
          refine sim_let (v := elp x_cells_ m114 0) (nc_elp _ _ _) ?_
          refine sim_let (v := elp x_cells_ m114 4) ((O107.tab (A := Cell21) (s := c_.cells) 1 rfl).fld _ _ _) ?_
          refine sim_let (v := iv a113.ways) ((O107.tab (A := Cell21) (s := c_.cells) 1 rfl).ld hm116 false 1 4) ?_
          refine sim_let (v := bv (decide (a113.ways = 0))) (aCmp_eq _ _) ?_
          refine sim_guardF (e := bv) (fun hb118 => ?_) (fun c119 => ?_)
          · refine sim_let (v := elp x_cells_ m114 0) (nc_elp _ _ _) ?_
            refine sim_let (v := elp x_cells_ m114 5) ((O107.tab (A := Cell21) (s := c_.cells) 1 rfl).fld _ _ _) ?_
            refine sim_let (v := iv a113.cost) ((O107.tab (A := Cell21) (s := c_.cells) 1 rfl).ld hm116 false 1 5) ?_
            refine sim_let (v := bv (decide ((wr ((wr (a1.cost + a11.cost)) + c117)) < a113.cost))) (aBin_lss _ _) ?_
            exact sim_ret rfl
          · refine sim_let (v := bv (bif decide (a113.ways = 0) then true else c119)) (pick_b' _ _ _) ?_
            refine sim_cond (fun c120 => ?_) (fun c120 => ?_)
            · refine sim_let (v := elp x_cells_ m114 0) (nc_elp _ _ _) ?_
              refine sim_let (v := elp x_cells_ m114 5) ((O107.tab (A := Cell21) (s := c_.cells) 1 rfl).fld _ _ _) ?_
              refine sim_set (A := Cell21) O107 1 (⟨⟨a113.box.x1, a113.box.y1, a113.box.x2, a113.box.y2⟩, a113.ways, wr ((wr (a1.cost + a11.cost)) + c117), a113.kind, a113.sign, a113.first, a113.rest⟩ : Cell21) rfl hi115 hm116 rfl (by simp) (by first | rfl | simp) (by first | rfl | simp [splice]) (fun h121 O122 => ?_)
              replace O122 : Hold B h121 [(AV.ptr o_ 1 0 0, .pt 2 [Sl.enc c_.list, x_cells_]), (x_cells_, obS ((setS c_.cells set_ (⟨⟨a113.box.x1, a113.box.y1, a113.box.x2, a113.box.y2⟩, a113.ways, wr ((wr (a1.cost + a11.cost)) + c117), a113.kind, a113.sign, a113.first, a113.rest⟩ : Cell21)) : Sl Cell21)), (AV.ptr o5 1 0 0, .pt 10 [iv a1.box.x1, iv a1.box.y1, iv a1.box.x2, iv a1.box.y2, iv a1.ways, iv a1.cost, iv a1.kind, iv a1.sign, iv a1.first, iv a1.rest]), (AV.ptr o15 1 0 0, .pt 10 [iv a11.box.x1, iv a11.box.y1, iv a11.box.x2, iv a11.box.y2, iv a11.ways, iv a11.cost, iv a11.kind, iv a11.sign, iv a11.first, iv a11.rest]), (AV.ptr o94 1 0 0, .pt 4 [iv a102.box.x1, iv a102.box.y1, iv a102.box.x2, iv a102.box.y2])] := O122
              refine sim_let (v := elp x_cells_ m114 0) (nc_elp _ _ _) ?_
              refine sim_let (v := elp x_cells_ m114 6) ((O122.tab (A := Cell21) (s := (setS c_.cells set_ (⟨⟨a113.box.x1, a113.box.y1, a113.box.x2, a113.box.y2⟩, a113.ways, wr ((wr (a1.cost + a11.cost)) + c117), a113.kind, a113.sign, a113.first, a113.rest⟩ : Cell21))) 1 rfl).fld _ _ _) ?_
              refine sim_set (A := Cell21) O122 1 (⟨⟨a113.box.x1, a113.box.y1, a113.box.x2, a113.box.y2⟩, a113.ways, wr ((wr (a1.cost + a11.cost)) + c117), kind_, a113.sign, a113.first, a113.rest⟩ : Cell21) rfl hi115 (setS_get hi115 hm116) rfl (by simp) (by first | rfl | simp) (by first | rfl | simp [splice]) (fun h123 O124 => ?_)
              rw [setS_set2] at O124
              replace O124 : Hold B h123 [(AV.ptr o_ 1 0 0, .pt 2 [Sl.enc c_.list, x_cells_]), (x_cells_, obS ((setS c_.cells set_ (⟨⟨a113.box.x1, a113.box.y1, a113.box.x2, a113.box.y2⟩, a113.ways, wr ((wr (a1.cost + a11.cost)) + c117), kind_, a113.sign, a113.first, a113.rest⟩ : Cell21)) : Sl Cell21)), (AV.ptr o5 1 0 0, .pt 10 [iv a1.box.x1, iv a1.box.y1, iv a1.box.x2, iv a1.box.y2, iv a1.ways, iv a1.cost, iv a1.kind, iv a1.sign, iv a1.first, iv a1.rest]), (AV.ptr o15 1 0 0, .pt 10 [iv a11.box.x1, iv a11.box.y1, iv a11.box.x2, iv a11.box.y2, iv a11.ways, iv a11.cost, iv a11.kind, iv a11.sign, iv a11.first, iv a11.rest]), (AV.ptr o94 1 0 0, .pt 4 [iv a102.box.x1, iv a102.box.y1, iv a102.box.x2, iv a102.box.y2])] := O124
              refine sim_let (v := elp x_cells_ m114 0) (nc_elp _ _ _) ?_
              refine sim_let (v := elp x_cells_ m114 7) ((O124.tab (A := Cell21) (s := (setS c_.cells set_ (⟨⟨a113.box.x1, a113.box.y1, a113.box.x2, a113.box.y2⟩, a113.ways, wr ((wr (a1.cost + a11.cost)) + c117), kind_, a113.sign, a113.first, a113.rest⟩ : Cell21))) 1 rfl).fld _ _ _) ?_
              refine sim_set (A := Cell21) O124 1 (⟨⟨a113.box.x1, a113.box.y1, a113.box.x2, a113.box.y2⟩, a113.ways, wr ((wr (a1.cost + a11.cost)) + c117), kind_, sign_, a113.first, a113.rest⟩ : Cell21) rfl hi115 (setS_get hi115 hm116) rfl (by simp) (by first | rfl | simp) (by first | rfl | simp [splice]) (fun h125 O126 => ?_)
              rw [setS_set2] at O126
              replace O126 : Hold B h125 [(AV.ptr o_ 1 0 0, .pt 2 [Sl.enc c_.list, x_cells_]), (x_cells_, obS ((setS c_.cells set_ (⟨⟨a113.box.x1, a113.box.y1, a113.box.x2, a113.box.y2⟩, a113.ways, wr ((wr (a1.cost + a11.cost)) + c117), kind_, sign_, a113.first, a113.rest⟩ : Cell21)) : Sl Cell21)), (AV.ptr o5 1 0 0, .pt 10 [iv a1.box.x1, iv a1.box.y1, iv a1.box.x2, iv a1.box.y2, iv a1.ways, iv a1.cost, iv a1.kind, iv a1.sign, iv a1.first, iv a1.rest]), (AV.ptr o15 1 0 0, .pt 10 [iv a11.box.x1, iv a11.box.y1, iv a11.box.x2, iv a11.box.y2, iv a11.ways, iv a11.cost, iv a11.kind, iv a11.sign, iv a11.first, iv a11.rest]), (AV.ptr o94 1 0 0, .pt 4 [iv a102.box.x1, iv a102.box.y1, iv a102.box.x2, iv a102.box.y2])] := O126
              refine sim_let (v := elp x_cells_ m114 0) (nc_elp _ _ _) ?_
              refine sim_let (v := elp x_cells_ m114 8) ((O126.tab (A := Cell21) (s := (setS c_.cells set_ (⟨⟨a113.box.x1, a113.box.y1, a113.box.x2, a113.box.y2⟩, a113.ways, wr ((wr (a1.cost + a11.cost)) + c117), kind_, sign_, a113.first, a113.rest⟩ : Cell21))) 1 rfl).fld _ _ _) ?_
              refine sim_set (A := Cell21) O126 1 (⟨⟨a113.box.x1, a113.box.y1, a113.box.x2, a113.box.y2⟩, a113.ways, wr ((wr (a1.cost + a11.cost)) + c117), kind_, sign_, first_, a113.rest⟩ : Cell21) rfl hi115 (setS_get hi115 hm116) rfl (by simp) (by first | rfl | simp) (by first | rfl | simp [splice]) (fun h127 O128 => ?_)
              rw [setS_set2] at O128
              replace O128 : Hold B h127 [(AV.ptr o_ 1 0 0, .pt 2 [Sl.enc c_.list, x_cells_]), (x_cells_, obS ((setS c_.cells set_ (⟨⟨a113.box.x1, a113.box.y1, a113.box.x2, a113.box.y2⟩, a113.ways, wr ((wr (a1.cost + a11.cost)) + c117), kind_, sign_, first_, a113.rest⟩ : Cell21)) : Sl Cell21)), (AV.ptr o5 1 0 0, .pt 10 [iv a1.box.x1, iv a1.box.y1, iv a1.box.x2, iv a1.box.y2, iv a1.ways, iv a1.cost, iv a1.kind, iv a1.sign, iv a1.first, iv a1.rest]), (AV.ptr o15 1 0 0, .pt 10 [iv a11.box.x1, iv a11.box.y1, iv a11.box.x2, iv a11.box.y2, iv a11.ways, iv a11.cost, iv a11.kind, iv a11.sign, iv a11.first, iv a11.rest]), (AV.ptr o94 1 0 0, .pt 4 [iv a102.box.x1, iv a102.box.y1, iv a102.box.x2, iv a102.box.y2])] := O128
              refine sim_let (v := elp x_cells_ m114 0) (nc_elp _ _ _) ?_
              refine sim_let (v := elp x_cells_ m114 9) ((O128.tab (A := Cell21) (s := (setS c_.cells set_ (⟨⟨a113.box.x1, a113.box.y1, a113.box.x2, a113.box.y2⟩, a113.ways, wr ((wr (a1.cost + a11.cost)) + c117), kind_, sign_, first_, a113.rest⟩ : Cell21))) 1 rfl).fld _ _ _) ?_
              refine sim_set (A := Cell21) O128 1 (⟨⟨a113.box.x1, a113.box.y1, a113.box.x2, a113.box.y2⟩, a113.ways, wr ((wr (a1.cost + a11.cost)) + c117), kind_, sign_, first_, rest_⟩ : Cell21) rfl hi115 (setS_get hi115 hm116) rfl (by simp) (by first | rfl | simp) (by first | rfl | simp [splice]) (fun h129 O130 => ?_)
              rw [setS_set2] at O130
              replace O130 : Hold B h129 [(AV.ptr o_ 1 0 0, .pt 2 [Sl.enc c_.list, x_cells_]), (x_cells_, obS ((setS c_.cells set_ (⟨⟨a113.box.x1, a113.box.y1, a113.box.x2, a113.box.y2⟩, a113.ways, wr ((wr (a1.cost + a11.cost)) + c117), kind_, sign_, first_, rest_⟩ : Cell21)) : Sl Cell21)), (AV.ptr o5 1 0 0, .pt 10 [iv a1.box.x1, iv a1.box.y1, iv a1.box.x2, iv a1.box.y2, iv a1.ways, iv a1.cost, iv a1.kind, iv a1.sign, iv a1.first, iv a1.rest]), (AV.ptr o15 1 0 0, .pt 10 [iv a11.box.x1, iv a11.box.y1, iv a11.box.x2, iv a11.box.y2, iv a11.ways, iv a11.cost, iv a11.kind, iv a11.sign, iv a11.first, iv a11.rest]), (AV.ptr o94 1 0 0, .pt 4 [iv a102.box.x1, iv a102.box.y1, iv a102.box.x2, iv a102.box.y2])] := O130
              refine sim_let (v := elp x_cells_ m114 0) (nc_elp _ _ _) ?_
              refine sim_let (v := elp x_cells_ m114 4) ((O130.tab (A := Cell21) (s := (setS c_.cells set_ (⟨⟨a113.box.x1, a113.box.y1, a113.box.x2, a113.box.y2⟩, a113.ways, wr ((wr (a1.cost + a11.cost)) + c117), kind_, sign_, first_, rest_⟩ : Cell21))) 1 rfl).fld _ _ _) ?_
              refine sim_let (v := iv a113.ways) ((O130.tab (A := Cell21) (s := (setS c_.cells set_ (⟨⟨a113.box.x1, a113.box.y1, a113.box.x2, a113.box.y2⟩, a113.ways, wr ((wr (a1.cost + a11.cost)) + c117), kind_, sign_, first_, rest_⟩ : Cell21))) 1 rfl).ld (setS_get hi115 hm116) false 1 4) ?_
              refine sim_let (v := iv (wr (a113.ways + a1.ways))) (aBin_add _ _) ?_
              refine sim_let (v := elp x_cells_ m114 0) (nc_elp _ _ _) ?_
              refine sim_let (v := elp x_cells_ m114 4) ((O130.tab (A := Cell21) (s := (setS c_.cells set_ (⟨⟨a113.box.x1, a113.box.y1, a113.box.x2, a113.box.y2⟩, a113.ways, wr ((wr (a1.cost + a11.cost)) + c117), kind_, sign_, first_, rest_⟩ : Cell21))) 1 rfl).fld _ _ _) ?_
              refine sim_set (A := Cell21) O130 1 (⟨⟨a113.box.x1, a113.box.y1, a113.box.x2, a113.box.y2⟩, wr (a113.ways + a1.ways), wr ((wr (a1.cost + a11.cost)) + c117), kind_, sign_, first_, rest_⟩ : Cell21) rfl hi115 (setS_get hi115 hm116) rfl (by simp) (by first | rfl | simp) (by first | rfl | simp [splice]) (fun h131 O132 => ?_)
              rw [setS_set2] at O132
              replace O132 : Hold B h131 [(AV.ptr o_ 1 0 0, .pt 2 [Sl.enc c_.list, x_cells_]), (x_cells_, obS ((setS c_.cells set_ (⟨⟨a113.box.x1, a113.box.y1, a113.box.x2, a113.box.y2⟩, wr (a113.ways + a1.ways), wr ((wr (a1.cost + a11.cost)) + c117), kind_, sign_, first_, rest_⟩ : Cell21)) : Sl Cell21)), (AV.ptr o5 1 0 0, .pt 10 [iv a1.box.x1, iv a1.box.y1, iv a1.box.x2, iv a1.box.y2, iv a1.ways, iv a1.cost, iv a1.kind, iv a1.sign, iv a1.first, iv a1.rest]), (AV.ptr o15 1 0 0, .pt 10 [iv a11.box.x1, iv a11.box.y1, iv a11.box.x2, iv a11.box.y2, iv a11.ways, iv a11.cost, iv a11.kind, iv a11.sign, iv a11.first, iv a11.rest]), (AV.ptr o94 1 0 0, .pt 4 [iv a102.box.x1, iv a102.box.y1, iv a102.box.x2, iv a102.box.y2])] := O132
              have O133 : Hold B h131 [(AV.ptr o_ 1 0 0, .pt 2 [Sl.enc c_.list, x_cells_]), (x_cells_, obS ((setS c_.cells set_ (⟨⟨a113.box.x1, a113.box.y1, a113.box.x2, a113.box.y2⟩, wr (a113.ways + a1.ways), wr ((wr (a1.cost + a11.cost)) + c117), kind_, sign_, first_, rest_⟩ : Cell21)) : Sl Cell21))] := O132.sel [0, 1] (by decide) rfl
              exact sim_ret ⟨_, rfl, O133⟩
            · refine sim_let (v := elp x_cells_ m114 0) (nc_elp _ _ _) ?_
              refine sim_let (v := elp x_cells_ m114 4) ((O107.tab (A := Cell21) (s := c_.cells) 1 rfl).fld _ _ _) ?_
              refine sim_let (v := iv a113.ways) ((O107.tab (A := Cell21) (s := c_.cells) 1 rfl).ld hm116 false 1 4) ?_
              refine sim_let (v := iv (wr (a113.ways + a1.ways))) (aBin_add _ _) ?_
              refine sim_let (v := elp x_cells_ m114 0) (nc_elp _ _ _) ?_
              refine sim_let (v := elp x_cells_ m114 4) ((O107.tab (A := Cell21) (s := c_.cells) 1 rfl).fld _ _ _) ?_
              refine sim_set (A := Cell21) O107 1 (⟨⟨a113.box.x1, a113.box.y1, a113.box.x2, a113.box.y2⟩, wr (a113.ways + a1.ways), a113.cost, a113.kind, a113.sign, a113.first, a113.rest⟩ : Cell21) rfl hi115 hm116 rfl (by simp) (by first | rfl | simp) (by first | rfl | simp [splice]) (fun h134 O135 => ?_)
              replace O135 : Hold B h134 [(AV.ptr o_ 1 0 0, .pt 2 [Sl.enc c_.list, x_cells_]), (x_cells_, obS ((setS c_.cells set_ (⟨⟨a113.box.x1, a113.box.y1, a113.box.x2, a113.box.y2⟩, wr (a113.ways + a1.ways), a113.cost, a113.kind, a113.sign, a113.first, a113.rest⟩ : Cell21)) : Sl Cell21)), (AV.ptr o5 1 0 0, .pt 10 [iv a1.box.x1, iv a1.box.y1, iv a1.box.x2, iv a1.box.y2, iv a1.ways, iv a1.cost, iv a1.kind, iv a1.sign, iv a1.first, iv a1.rest]), (AV.ptr o15 1 0 0, .pt 10 [iv a11.box.x1, iv a11.box.y1, iv a11.box.x2, iv a11.box.y2, iv a11.ways, iv a11.cost, iv a11.kind, iv a11.sign, iv a11.first, iv a11.rest]), (AV.ptr o94 1 0 0, .pt 4 [iv a102.box.x1, iv a102.box.y1, iv a102.box.x2, iv a102.box.y2])] := O135
              have O136 : Hold B h134 [(AV.ptr o_ 1 0 0, .pt 2 [Sl.enc c_.list, x_cells_]), (x_cells_, obS ((setS c_.cells set_ (⟨⟨a113.box.x1, a113.box.y1, a113.box.x2, a113.box.y2⟩, wr (a113.ways + a1.ways), a113.cost, a113.kind, a113.sign, a113.first, a113.rest⟩ : Cell21)) : Sl Cell21))] := O135.sel [0, 1] (by decide) rfl
              exact sim_ret ⟨_, rfl, O136⟩
    · refine sim_let (v := bv (decide (a1.ways = 0))) (aCmp_eq _ _) ?_
      refine sim_guardF (e := bv) (fun hb137 => ?_) (fun c139 => ?_)
      · refine sim_let (v := AV.agg [iv 0, iv 0, iv 0, iv 0]) (O99.ld 4 rfl true 4 0) ?_
        refine sim_let (v := AV.ptr o5 1 0 0) rfl ?_
        refine sim_let (v := AV.agg [iv a1.box.x1, iv a1.box.y1, iv a1.box.x2, iv a1.box.y2]) (O99.ld 2 rfl true 4 0) ?_
        refine sim_let (v := AV.ptr o15 1 0 0) rfl ?_
        refine sim_let (v := AV.agg [iv a11.box.x1, iv a11.box.y1, iv a11.box.x2, iv a11.box.y2]) (O99.ld 3 rfl true 4 0) ?_
        refine sim_call4 he_spec_l21Fits (snapD_int _ _) (snapD_nr _ (⟨0, 0, 0, 0⟩ : Box) rfl) (snapD_nr _ a1.box rfl) (snapD_nr _ a11.box rfl) (fun c138 => ?_)
        refine sim_let2 (hand_plain (by rfl) _ _) ?_
        refine sim_let (v := bv (!c138)) (aUn_not _) ?_
        exact sim_ret rfl
      · refine sim_let (v := bv (bif decide (a1.ways = 0) then true else c139)) (pick_b' _ _ _) ?_
        refine sim_cond (fun c140 => ?_) (fun c140 => ?_)
        · have O141 : Hold B h98 [(AV.ptr o_ 1 0 0, .pt 2 [Sl.enc c_.list, x_cells_]), (x_cells_, obS (c_.cells : Sl Cell21))] := O99.sel [0, 1] (by decide) rfl
          exact sim_ret ⟨_, rfl, O141⟩
        · refine sim_let (v := AV.ptr o_ 1 0 0) rfl ?_
          refine sim_let (v := AV.ptr o_ 1 0 1) rfl ?_
          refine sim_let (v := x_cells_) (O99.ld 0 rfl false 1 1) ?_
          refine sim_get (O99.tab (A := Cell21) (s := c_.cells) 1 rfl) (fun m143 a142 hi144 hm145 => ?_)
          refine sim_let (v := AV.ptr o5 1 0 5) rfl ?_
          refine sim_let (v := iv a1.cost) (O99.ld 2 rfl false 1 5) ?_
          refine sim_let (v := AV.ptr o15 1 0 5) rfl ?_
          refine sim_let (v := iv a11.cost) (O99.ld 3 rfl false 1 5) ?_
          refine sim_let (v := iv (wr (a1.cost + a11.cost))) (aBin_add _ _) ?_
          refine sim_let (v := AV.agg [iv 0, iv 0, iv 0, iv 0]) (O99.ld 4 rfl true 4 0) ?_
          refine sim_let (v := AV.ptr o5 1 0 0) rfl ?_
          refine sim_let (v := AV.agg [iv a1.box.x1, iv a1.box.y1, iv a1.box.x2, iv a1.box.y2]) (O99.ld 2 rfl true 4 0) ?_
          refine sim_let (v := AV.ptr o15 1 0 0) rfl ?_
          refine sim_let (v := AV.agg [iv a11.box.x1, iv a11.box.y1, iv a11.box.x2, iv a11.box.y2]) (O99.ld 3 rfl true 4 0) ?_
          refine sim_callQ4 he_spec_l21Own (snapD_int _ _) (snapD_nr _ (⟨0, 0, 0, 0⟩ : Box) rfl) (snapD_nr _ a1.box rfl) (snapD_nr _ a11.box rfl) (fun c146 => ?_)
          refine sim_let2 (hand_plain (by rfl) _ _) ?_
          refine sim_let (v := iv (wr ((wr (a1.cost + a11.cost)) + c146))) (aBin_add _ _) ?_
          refine sim_let (v := elp x_cells_ m143 0) (nc_elp _ _ _) ?_
          refine sim_let (v := elp x_cells_ m143 4) ((O99.tab (A := Cell21) (s := c_.cells) 1 rfl).fld _ _ _) ?_
          refine sim_let (v := iv a142.ways) ((O99.tab (A := Cell21) (s := c_.cells) 1 rfl).ld hm145 false 1 4) ?_
          refine sim_let (v := bv (decide (a142.ways = 0))) (aCmp_eq _ _) ?_
          refine sim_guardF (e := bv) (fun hb147 => ?_) (fun c148 => ?_)
          · refine sim_let (v := elp x_cells_ m143 0) (nc_elp _ _ _) ?_
            refine sim_let (v := elp x_cells_ m143 5) ((O99.tab (A := Cell21) (s := c_.cells) 1 rfl).fld _ _ _) ?_
            refine sim_let (v := iv a142.cost) ((O99.tab (A := Cell21) (s := c_.cells) 1 rfl).ld hm145 false 1 5) ?_
            refine sim_let (v := bv (decide ((wr ((wr (a1.cost + a11.cost)) + c146)) < a142.cost))) (aBin_lss _ _) ?_
            exact sim_ret rfl
          · refine sim_let (v := bv (bif decide (a142.ways = 0) then true else c148)) (pick_b' _ _ _) ?_
            refine sim_cond (fun c149 => ?_) (fun c149 => ?_)
            · refine sim_let (v := elp x_cells_ m143 0) (nc_elp _ _ _) ?_
              refine sim_let (v := elp x_cells_ m143 5) ((O99.tab (A := Cell21) (s := c_.cells) 1 rfl).fld _ _ _) ?_
              refine sim_set (A := Cell21) O99 1 (⟨⟨a142.box.x1, a142.box.y1, a142.box.x2, a142.box.y2⟩, a142.ways, wr ((wr (a1.cost + a11.cost)) + c146), a142.kind, a142.sign, a142.first, a142.rest⟩ : Cell21) rfl hi144 hm145 rfl (by simp) (by first | rfl | simp) (by first | rfl | simp [splice]) (fun h150 O151 => ?_)
              replace O151 : Hold B h150 [(AV.ptr o_ 1 0 0, .pt 2 [Sl.enc c_.list, x_cells_]), (x_cells_, obS ((setS c_.cells set_ (⟨⟨a142.box.x1, a142.box.y1, a142.box.x2, a142.box.y2⟩, a142.ways, wr ((wr (a1.cost + a11.cost)) + c146), a142.kind, a142.sign, a142.first, a142.rest⟩ : Cell21)) : Sl Cell21)), (AV.ptr o5 1 0 0, .pt 10 [iv a1.box.x1, iv a1.box.y1, iv a1.box.x2, iv a1.box.y2, iv a1.ways, iv a1.cost, iv a1.kind, iv a1.sign, iv a1.first, iv a1.rest]), (AV.ptr o15 1 0 0, .pt 10 [iv a11.box.x1, iv a11.box.y1, iv a11.box.x2, iv a11.box.y2, iv a11.ways, iv a11.cost, iv a11.kind, iv a11.sign, iv a11.first, iv a11.rest]), (AV.ptr o94 1 0 0, .pt 4 [iv 0, iv 0, iv 0, iv 0])] := O151
              refine sim_let (v := elp x_cells_ m143 0) (nc_elp _ _ _) ?_
              refine sim_let (v := elp x_cells_ m143 6) ((O151.tab (A := Cell21) (s := (setS c_.cells set_ (⟨⟨a142.box.x1, a142.box.y1, a142.box.x2, a142.box.y2⟩, a142.ways, wr ((wr (a1.cost + a11.cost)) + c146), a142.kind, a142.sign, a142.first, a142.rest⟩ : Cell21))) 1 rfl).fld _ _ _) ?_
              refine sim_set (A := Cell21) O151 1 (⟨⟨a142.box.x1, a142.box.y1, a142.box.x2, a142.box.y2⟩, a142.ways, wr ((wr (a1.cost + a11.cost)) + c146), kind_, a142.sign, a142.first, a142.rest⟩ : Cell21) rfl hi144 (setS_get hi144 hm145) rfl (by simp) (by first | rfl | simp) (by first | rfl | simp [splice]) (fun h152 O153 => ?_)
              rw [setS_set2] at O153
              replace O153 : Hold B h152 [(AV.ptr o_ 1 0 0, .pt 2 [Sl.enc c_.list, x_cells_]), (x_cells_, obS ((setS c_.cells set_ (⟨⟨a142.box.x1, a142.box.y1, a142.box.x2, a142.box.y2⟩, a142.ways, wr ((wr (a1.cost + a11.cost)) + c146), kind_, a142.sign, a142.first, a142.rest⟩ : Cell21)) : Sl Cell21)), (AV.ptr o5 1 0 0, .pt 10 [iv a1.box.x1, iv a1.box.y1, iv a1.box.x2, iv a1.box.y2, iv a1.ways, iv a1.cost, iv a1.kind, iv a1.sign, iv a1.first, iv a1.rest]), (AV.ptr o15 1 0 0, .pt 10 [iv a11.box.x1, iv a11.box.y1, iv a11.box.x2, iv a11.box.y2, iv a11.ways, iv a11.cost, iv a11.kind, iv a11.sign, iv a11.first, iv a11.rest]), (AV.ptr o94 1 0 0, .pt 4 [iv 0, iv 0, iv 0, iv 0])] := O153
              refine sim_let (v := elp x_cells_ m143 0) (nc_elp _ _ _) ?_
              refine sim_let (v := elp x_cells_ m143 7) ((O153.tab (A := Cell21) (s := (setS c_.cells set_ (⟨⟨a142.box.x1, a142.box.y1, a142.box.x2, a142.box.y2⟩, a142.ways, wr ((wr (a1.cost + a11.cost)) + c146), kind_, a142.sign, a142.first, a142.rest⟩ : Cell21))) 1 rfl).fld _ _ _) ?_
              refine sim_set (A := Cell21) O153 1 (⟨⟨a142.box.x1, a142.box.y1, a142.box.x2, a142.box.y2⟩, a142.ways, wr ((wr (a1.cost + a11.cost)) + c146), kind_, sign_, a142.first, a142.rest⟩ : Cell21) rfl hi144 (setS_get hi144 hm145) rfl (by simp) (by first | rfl | simp) (by first | rfl | simp [splice]) (fun h154 O155 => ?_)
              rw [setS_set2] at O155
              replace O155 : Hold B h154 [(AV.ptr o_ 1 0 0, .pt 2 [Sl.enc c_.list, x_cells_]), (x_cells_, obS ((setS c_.cells set_ (⟨⟨a142.box.x1, a142.box.y1, a142.box.x2, a142.box.y2⟩, a142.ways, wr ((wr (a1.cost + a11.cost)) + c146), kind_, sign_, a142.first, a142.rest⟩ : Cell21)) : Sl Cell21)), (AV.ptr o5 1 0 0, .pt 10 [iv a1.box.x1, iv a1.box.y1, iv a1.box.x2, iv a1.box.y2, iv a1.ways, iv a1.cost, iv a1.kind, iv a1.sign, iv a1.first, iv a1.rest]), (AV.ptr o15 1 0 0, .pt 10 [iv a11.box.x1, iv a11.box.y1, iv a11.box.x2, iv a11.box.y2, iv a11.ways, iv a11.cost, iv a11.kind, iv a11.sign, iv a11.first, iv a11.rest]), (AV.ptr o94 1 0 0, .pt 4 [iv 0, iv 0, iv 0, iv 0])] := O155
              refine sim_let (v := elp x_cells_ m143 0) (nc_elp _ _ _) ?_
              refine sim_let (v := elp x_cells_ m143 8) ((O155.tab (A := Cell21) (s := (setS c_.cells set_ (⟨⟨a142.box.x1, a142.box.y1, a142.box.x2, a142.box.y2⟩, a142.ways, wr ((wr (a1.cost + a11.cost)) + c146), kind_, sign_, a142.first, a142.rest⟩ : Cell21))) 1 rfl).fld _ _ _) ?_
              refine sim_set (A := Cell21) O155 1 (⟨⟨a142.box.x1, a142.box.y1, a142.box.x2, a142.box.y2⟩, a142.ways, wr ((wr (a1.cost + a11.cost)) + c146), kind_, sign_, first_, a142.rest⟩ : Cell21) rfl hi144 (setS_get hi144 hm145) rfl (by simp) (by first | rfl | simp) (by first | rfl | simp [splice]) (fun h156 O157 => ?_)
              rw [setS_set2] at O157
              replace O157 : Hold B h156 [(AV.ptr o_ 1 0 0, .pt 2 [Sl.enc c_.list, x_cells_]), (x_cells_, obS ((setS c_.cells set_ (⟨⟨a142.box.x1, a142.box.y1, a142.box.x2, a142.box.y2⟩, a142.ways, wr ((wr (a1.cost + a11.cost)) + c146), kind_, sign_, first_, a142.rest⟩ : Cell21)) : Sl Cell21)), (AV.ptr o5 1 0 0, .pt 10 [iv a1.box.x1, iv a1.box.y1, iv a1.box.x2, iv a1.box.y2, iv a1.ways, iv a1.cost, iv a1.kind, iv a1.sign, iv a1.first, iv a1.rest]), (AV.ptr o15 1 0 0, .pt 10 [iv a11.box.x1, iv a11.box.y1, iv a11.box.x2, iv a11.box.y2, iv a11.ways, iv a11.cost, iv a11.kind, iv a11.sign, iv a11.first, iv a11.rest]), (AV.ptr o94 1 0 0, .pt 4 [iv 0, iv 0, iv 0, iv 0])] := O157
              refine sim_let (v := elp x_cells_ m143 0) (nc_elp _ _ _) ?_
              refine sim_let (v := elp x_cells_ m143 9) ((O157.tab (A := Cell21) (s := (setS c_.cells set_ (⟨⟨a142.box.x1, a142.box.y1, a142.box.x2, a142.box.y2⟩, a142.ways, wr ((wr (a1.cost + a11.cost)) + c146), kind_, sign_, first_, a142.rest⟩ : Cell21))) 1 rfl).fld _ _ _) ?_
              refine sim_set (A := Cell21) O157 1 (⟨⟨a142.box.x1, a142.box.y1, a142.box.x2, a142.box.y2⟩, a142.ways, wr ((wr (a1.cost + a11.cost)) + c146), kind_, sign_, first_, rest_⟩ : Cell21) rfl hi144 (setS_get hi144 hm145) rfl (by simp) (by first | rfl | simp) (by first | rfl | simp [splice]) (fun h158 O159 => ?_)
              rw [setS_set2] at O159
              replace O159 : Hold B h158 [(AV.ptr o_ 1 0 0, .pt 2 [Sl.enc c_.list, x_cells_]), (x_cells_, obS ((setS c_.cells set_ (⟨⟨a142.box.x1, a142.box.y1, a142.box.x2, a142.box.y2⟩, a142.ways, wr ((wr (a1.cost + a11.cost)) + c146), kind_, sign_, first_, rest_⟩ : Cell21)) : Sl Cell21)), (AV.ptr o5 1 0 0, .pt 10 [iv a1.box.x1, iv a1.box.y1, iv a1.box.x2, iv a1.box.y2, iv a1.ways, iv a1.cost, iv a1.kind, iv a1.sign, iv a1.first, iv a1.rest]), (AV.ptr o15 1 0 0, .pt 10 [iv a11.box.x1, iv a11.box.y1, iv a11.box.x2, iv a11.box.y2, iv a11.ways, iv a11.cost, iv a11.kind, iv a11.sign, iv a11.first, iv a11.rest]), (AV.ptr o94 1 0 0, .pt 4 [iv 0, iv 0, iv 0, iv 0])] := O159
              refine sim_let (v := elp x_cells_ m143 0) (nc_elp _ _ _) ?_
              refine sim_let (v := elp x_cells_ m143 4) ((O159.tab (A := Cell21) (s := (setS c_.cells set_ (⟨⟨a142.box.x1, a142.box.y1, a142.box.x2, a142.box.y2⟩, a142.ways, wr ((wr (a1.cost + a11.cost)) + c146), kind_, sign_, first_, rest_⟩ : Cell21))) 1 rfl).fld _ _ _) ?_
              refine sim_let (v := iv a142.ways) ((O159.tab (A := Cell21) (s := (setS c_.cells set_ (⟨⟨a142.box.x1, a142.box.y1, a142.box.x2, a142.box.y2⟩, a142.ways, wr ((wr (a1.cost + a11.cost)) + c146), kind_, sign_, first_, rest_⟩ : Cell21))) 1 rfl).ld (setS_get hi144 hm145) false 1 4) ?_
              refine sim_let (v := iv (wr (a142.ways + a1.ways))) (aBin_add _ _) ?_
              refine sim_let (v := elp x_cells_ m143 0) (nc_elp _ _ _) ?_
              refine sim_let (v := elp x_cells_ m143 4) ((O159.tab (A := Cell21) (s := (setS c_.cells set_ (⟨⟨a142.box.x1, a142.box.y1, a142.box.x2, a142.box.y2⟩, a142.ways, wr ((wr (a1.cost + a11.cost)) + c146), kind_, sign_, first_, rest_⟩ : Cell21))) 1 rfl).fld _ _ _) ?_
              refine sim_set (A := Cell21) O159 1 (⟨⟨a142.box.x1, a142.box.y1, a142.box.x2, a142.box.y2⟩, wr (a142.ways + a1.ways), wr ((wr (a1.cost + a11.cost)) + c146), kind_, sign_, first_, rest_⟩ : Cell21) rfl hi144 (setS_get hi144 hm145) rfl (by simp) (by first | rfl | simp) (by first | rfl | simp [splice]) (fun h160 O161 => ?_)
              rw [setS_set2] at O161
              replace O161 : Hold B h160 [(AV.ptr o_ 1 0 0, .pt 2 [Sl.enc c_.list, x_cells_]), (x_cells_, obS ((setS c_.cells set_ (⟨⟨a142.box.x1, a142.box.y1, a142.box.x2, a142.box.y2⟩, wr (a142.ways + a1.ways), wr ((wr (a1.cost + a11.cost)) + c146), kind_, sign_, first_, rest_⟩ : Cell21)) : Sl Cell21)), (AV.ptr o5 1 0 0, .pt 10 [iv a1.box.x1, iv a1.box.y1, iv a1.box.x2, iv a1.box.y2, iv a1.ways, iv a1.cost, iv a1.kind, iv a1.sign, iv a1.first, iv a1.rest]), (AV.ptr o15 1 0 0, .pt 10 [iv a11.box.x1, iv a11.box.y1, iv a11.box.x2, iv a11.box.y2, iv a11.ways, iv a11.cost, iv a11.kind, iv a11.sign, iv a11.first, iv a11.rest]), (AV.ptr o94 1 0 0, .pt 4 [iv 0, iv 0, iv 0, iv 0])] := O161
              have O162 : Hold B h160 [(AV.ptr o_ 1 0 0, .pt 2 [Sl.enc c_.list, x_cells_]), (x_cells_, obS ((setS c_.cells set_ (⟨⟨a142.box.x1, a142.box.y1, a142.box.x2, a142.box.y2⟩, wr (a142.ways + a1.ways), wr ((wr (a1.cost + a11.cost)) + c146), kind_, sign_, first_, rest_⟩ : Cell21)) : Sl Cell21))] := O161.sel [0, 1] (by decide) rfl
              exact sim_ret ⟨_, rfl, O162⟩
            · refine sim_let (v := elp x_cells_ m143 0) (nc_elp _ _ _) ?_
              refine sim_let (v := elp x_cells_ m143 4) ((O99.tab (A := Cell21) (s := c_.cells) 1 rfl).fld _ _ _) ?_
              refine sim_let (v := iv a142.ways) ((O99.tab (A := Cell21) (s := c_.cells) 1 rfl).ld hm145 false 1 4) ?_
              refine sim_let (v := iv (wr (a142.ways + a1.ways))) (aBin_add _ _) ?_
              refine sim_let (v := elp x_cells_ m143 0) (nc_elp _ _ _) ?_
              refine sim_let (v := elp x_cells_ m143 4) ((O99.tab (A := Cell21) (s := c_.cells) 1 rfl).fld _ _ _) ?_
              refine sim_set (A := Cell21) O99 1 (⟨⟨a142.box.x1, a142.box.y1, a142.box.x2, a142.box.y2⟩, wr (a142.ways + a1.ways), a142.cost, a142.kind, a142.sign, a142.first, a142.rest⟩ : Cell21) rfl hi144 hm145 rfl (by simp) (by first | rfl | simp) (by first | rfl | simp [splice]) (fun h163 O164 => ?_)
              replace O164 : Hold B h163 [(AV.ptr o_ 1 0 0, .pt 2 [Sl.enc c_.list, x_cells_]), (x_cells_, obS ((setS c_.cells set_ (⟨⟨a142.box.x1, a142.box.y1, a142.box.x2, a142.box.y2⟩, wr (a142.ways + a1.ways), a142.cost, a142.kind, a142.sign, a142.first, a142.rest⟩ : Cell21)) : Sl Cell21)), (AV.ptr o5 1 0 0, .pt 10 [iv a1.box.x1, iv a1.box.y1, iv a1.box.x2, iv a1.box.y2, iv a1.ways, iv a1.cost, iv a1.kind, iv a1.sign, iv a1.first, iv a1.rest]), (AV.ptr o15 1 0 0, .pt 10 [iv a11.box.x1, iv a11.box.y1, iv a11.box.x2, iv a11.box.y2, iv a11.ways, iv a11.cost, iv a11.kind, iv a11.sign, iv a11.first, iv a11.rest]), (AV.ptr o94 1 0 0, .pt 4 [iv 0, iv 0, iv 0, iv 0])] := O164
              have O165 : Hold B h163 [(AV.ptr o_ 1 0 0, .pt 2 [Sl.enc c_.list, x_cells_]), (x_cells_, obS ((setS c_.cells set_ (⟨⟨a142.box.x1, a142.box.y1, a142.box.x2, a142.box.y2⟩, wr (a142.ways + a1.ways), a142.cost, a142.kind, a142.sign, a142.first, a142.rest⟩ : Cell21)) : Sl Cell21))] := O164.sel [0, 1] (by decide) rfl
              exact sim_ret ⟨_, rfl, O165⟩
noncomputable def ev_spec_l21Chart_try : Nat → Contract := envL [(n_spec_l21Fits, .pure (C4 (fun c : Bool => enc c) t_spec_l21Fits)), (n_spec_l21Label, .pure (C1 (fun c : ByteArray => enc c) t_spec_l21Label)), (n_spec_l21Own, .pure (C4 (fun c : Int => enc c) t_spec_l21Own))]
theorem eo_spec_l21Chart_try : EnvOK Try.prog ev_spec_l21Chart_try := (Econs tt_spec_l21Fits (Econs tt_spec_l21Label (Econs tt_spec_l21Own E0)))
theorem tg_spec_l21Chart_try {B : Base} {h : Heap} {o_ : Nat} {x_cells_ : AV} (c_ : Chart21) (set_ : Int) (kind_ : Int) (sign_ : Int) (first_ : Int) (rest_ : Int) (O : Hold B h [(AV.ptr o_ 1 0 0, .pt 2 [Sl.enc c_.list, x_cells_]), (x_cells_, obS (c_.cells : Sl Cell21))]) : Sim (denFn Try.prog ev_spec_l21Chart_try n_spec_l21Chart_try [AV.ptr o_ 1 0 0, iv set_, iv kind_, iv sign_, iv first_, iv rest_] h) (t_spec_l21Chart_try c_ set_ kind_ sign_ first_ rest_) (fun c p => ∃ x1, p.1 = und ∧ Hold B p.2 ([(AV.ptr o_ 1 0 0, .pt 2 [Sl.enc c.list, x1]), (x1, obS (c.cells : Sl Cell21))])) := ts_spec_l21Chart_try ev_spec_l21Chart_try (by simp [ev_spec_l21Chart_try, envL]) (by simp [ev_spec_l21Chart_try, envL]) (by simp [ev_spec_l21Chart_try, envL]) c_ set_ kind_ sign_ first_ rest_  O

def s0_spec_l21Chart_split (set_ : Int) (kind_ : Int) (sign_ : Int) (parts_ : Int) : ((Sl Symbol) × (Sl Cell21) × Int) → Option (Sum ((Sl Symbol) × (Sl Cell21) × Int) ((Sl Symbol) × (Sl Cell21))) := fun (w1, w3, w6) =>
  bif decide (w6 < parts_) then
    bif decide (andI w6 parts_ = w6) then
      obind (t_spec_l21Chart_try (⟨w1, w3⟩ : Chart21) set_ kind_ sign_ w6 (andNotI parts_ w6)) fun c17 =>
      some (.inl (c17.list, c17.cells, wr (w6 + 1)))
    else
      some (.inl (w1, w3, wr (w6 + 1)))
  else
    some (.inr (w1, w3))
def t_spec_l21Chart_split (c_ : Chart21) (set_ : Int) (kind_ : Int) (sign_ : Int) (parts_ : Int) : Option Chart21 :=
  obind (loopT (s0_spec_l21Chart_split set_ kind_ sign_ parts_) (c_.list, c_.cells, 1)) fun (q9, q11) =>
  some (⟨q9, q11⟩ : Chart21)

theorem tl0_spec_l21Chart_split (env : Nat → Contract) {B : Base} (he_spec_l21Chart_try : env n_spec_l21Chart_try = .gen (denFn Try.prog ev_spec_l21Chart_try n_spec_l21Chart_try)) (o_ : Nat) (set_ : Int) (kind_ : Int) (sign_ : Int) (parts_ : Int)  {st : (Sl Symbol) × (Sl Cell21) × Int} {tm : TM} {h : Heap} (R : (fun (st : (Sl Symbol) × (Sl Cell21) × Int) tm h4 => match st with | (w1, w3, w6) => ∃ z2, tm = [AV.ptr o_ 1 0 0, iv set_, iv kind_, iv sign_, iv parts_, und, und, und, und, und, iv w6, AV.top, AV.top, AV.top, AV.top, AV.top, AV.top, AV.top, AV.top, AV.top, AV.top, AV.top, AV.top, AV.top, AV.top, AV.top, AV.top, AV.top, AV.top, AV.top] ∧ Hold B h4 [(AV.ptr o_ 1 0 0, .pt 2 [Sl.enc w1, z2]), (z2, obS (w3 : Sl Cell21))]) st tm h) : Sim (loopP hm0_spec_l21Chart_split xm0_spec_l21Chart_split (lb0_spec_l21Chart_split env) tm h) (loopT (s0_spec_l21Chart_split set_ kind_ sign_ parts_) st) (fun (q : (Sl Symbol) × (Sl Cell21)) (r : Res) => match q with | (q9, q11) => ∃ (q12 : Int) (z10 : AV) (h7 : Heap), r = (.exit 0, [AV.ptr o_ 1 0 0, iv set_, iv kind_, iv sign_, iv parts_, und, und, und, und, und, iv q12, AV.top, AV.top, AV.top, AV.top, AV.top, AV.top, AV.top, AV.top, AV.top, AV.top, AV.top, AV.top, AV.top, AV.top, AV.top, AV.top, AV.top, AV.top, AV.top], h7) ∧ Hold B h7 [(AV.ptr o_ 1 0 0, .pt 2 [Sl.enc q9, z10]), (z10, obS (q11 : Sl Cell21))]) := by
  refine loop_sim (Rel := fun (st : (Sl Symbol) × (Sl Cell21) × Int) tm h4 => match st with | (w1, w3, w6) => ∃ z2, tm = [AV.ptr o_ 1 0 0, iv set_, iv kind_, iv sign_, iv parts_, und, und, und, und, und, iv w6, AV.top, AV.top, AV.top, AV.top, AV.top, AV.top, AV.top, AV.top, AV.top, AV.top, AV.top, AV.top, AV.top, AV.top, AV.top, AV.top, AV.top, AV.top, AV.top] ∧ Hold B h4 [(AV.ptr o_ 1 0 0, .pt 2 [Sl.enc w1, z2]), (z2, obS (w3 : Sl Cell21))]) (fun st tm h4 R => ?_) R
  obtain ⟨w1, w3, w6⟩ := st
  obtain ⟨z2, rfl, O5⟩ := R
  rw [e_lb0_spec_l21Chart_split]
  unfold s0_spec_l21Chart_split
  dsimp only
  refine sim_let (v := bv (decide (w6 < parts_))) (aBin_lss _ _) ?_
  refine sim_cond (fun c14 => ?_) (fun c14 => ?_)
  · refine sim_let (v := iv (andI w6 parts_)) (aBin_and _ _) ?_
    refine sim_let (v := bv (decide (andI w6 parts_ = w6))) (aCmp_eq _ _) ?_
    refine sim_cond (fun c15 => ?_) (fun c15 => ?_)
    · refine sim_let (v := iv (andNotI parts_ w6)) (aBin_andNot _ _) ?_
      have O16 := O5
      refine sim_gen he_spec_l21Chart_try (tg_spec_l21Chart_try (⟨w1, w3⟩ : Chart21) set_ kind_ sign_ w6 (andNotI parts_ w6) (Hold.startL (L := [(AV.ptr o_ 1 0 0, .pt 2 [Sl.enc w1, z2]), (z2, obS (w3 : Sl Cell21))]) (R := []) O16)) (fun c17 v18 h19 hq20 => ?_)
      obtain ⟨x23, e_v18, O21⟩ := hq20
      dsimp only at e_v18
      subst v18
      have O22 : Hold B h19 [(AV.ptr o_ 1 0 0, .pt 2 [Sl.enc c17.list, x23]), (x23, obS (c17.cells : Sl Cell21))] := Hold.mergeL (L := [(AV.ptr o_ 1 0 0, .pt 2 [Sl.enc w1, z2]), (z2, obS (w3 : Sl Cell21))]) (R := []) O16 O21
      refine sim_let (v := iv (wr (w6 + 1))) (aBin_add _ _) ?_
      exact sim_ret ⟨rfl, _, rfl, O22⟩
    · refine sim_let (v := iv (wr (w6 + 1))) (aBin_add _ _) ?_
      exact sim_ret ⟨rfl, _, rfl, O5⟩
  · exact sim_ret ⟨nofun, _, _, _, rfl, O5⟩
theorem ts_spec_l21Chart_split (env : Nat → Contract) (he_spec_l21Chart_try : env n_spec_l21Chart_try = .gen (denFn Try.prog ev_spec_l21Chart_try n_spec_l21Chart_try)) {B : Base} {h : Heap} {o_ : Nat} {x_cells_ : AV} (c_ : Chart21) (set_ : Int) (kind_ : Int) (sign_ : Int) (parts_ : Int) (O : Hold B h [(AV.ptr o_ 1 0 0, .pt 2 [Sl.enc c_.list, x_cells_]), (x_cells_, obS (c_.cells : Sl Cell21))]) : Sim (denFn Try.prog env n_spec_l21Chart_split [AV.ptr o_ 1 0 0, iv set_, iv kind_, iv sign_, iv parts_] h) (t_spec_l21Chart_split c_ set_ kind_ sign_ parts_) (fun c p => ∃ x1, p.1 = und ∧ Hold B p.2 ([(AV.ptr o_ 1 0 0, .pt 2 [Sl.enc c.list, x1]), (x1, obS (c.cells : Sl Cell21))])) := by
  rw [e_spec_l21Chart_split]
  unfold t_spec_l21Chart_split
  refine sim_bind ((tl0_spec_l21Chart_split env he_spec_l21Chart_try o_ set_ kind_ sign_ parts_) ⟨_, rfl, O⟩) (fun qq29 r hq => ?_)
  obtain ⟨q9, q11⟩ := qq29
  obtain ⟨q12, z10, h7, rfl, O8⟩ := hq
  rw [e_lk0x0_spec_l21Chart_split]
  exact sim_ret ⟨_, rfl, O8⟩
noncomputable def ev_spec_l21Chart_split : Nat → Contract := envL [(n_spec_l21Chart_try, .gen (denFn Try.prog ev_spec_l21Chart_try n_spec_l21Chart_try))]
theorem eo_spec_l21Chart_split : EnvOK Try.prog ev_spec_l21Chart_split := (EconsG (gen_of_den eo_spec_l21Chart_try mixed hb_spec_l21Chart_try) E0)
theorem tg_spec_l21Chart_split {B : Base} {h : Heap} {o_ : Nat} {x_cells_ : AV} (c_ : Chart21) (set_ : Int) (kind_ : Int) (sign_ : Int) (parts_ : Int) (O : Hold B h [(AV.ptr o_ 1 0 0, .pt 2 [Sl.enc c_.list, x_cells_]), (x_cells_, obS (c_.cells : Sl Cell21))]) : Sim (denFn Try.prog ev_spec_l21Chart_split n_spec_l21Chart_split [AV.ptr o_ 1 0 0, iv set_, iv kind_, iv sign_, iv parts_] h) (t_spec_l21Chart_split c_ set_ kind_ sign_ parts_) (fun c p => ∃ x1, p.1 = und ∧ Hold B p.2 ([(AV.ptr o_ 1 0 0, .pt 2 [Sl.enc c.list, x1]), (x1, obS (c.cells : Sl Cell21))])) := ts_spec_l21Chart_split ev_spec_l21Chart_split (by simp [ev_spec_l21Chart_split, envL]) c_ set_ kind_ sign_ parts_  O

def s0_spec_l21Chart_signs (set_ : Int) (kind_ : Int) : ((Sl Symbol) × (Sl Cell21) × Int) → Option (Sum ((Sl Symbol) × (Sl Cell21) × Int) ((Sl Symbol) × (Sl Cell21))) := fun (w1, w3, w6) =>
  bif decide (w6 < (((w1.getD []).length : Nat) : Int)) then
    obind (shlO 1 w6) fun q16 =>
    obind (bif decide (andNotI set_ q16 = set_) then some false else (obind (getI (w1.getD []) w6) fun a18 => obind (t_spec_l21Label kind_) fun c22 => some (!decide (a18.label = c22)))) fun c23 =>
    bif (bif decide (andNotI set_ q16 = set_) then true else c23) then
      some (.inl (w1, w3, wr (w6 + 1)))
    else
      bif decide (kind_ = 5) then
        obind (t_spec_l21Chart_try (⟨w1, w3⟩ : Chart21) set_ kind_ w6 (andNotI set_ q16) 0) fun c38 =>
        some (.inl (c38.list, c38.cells, wr (w6 + 1)))
      else
        obind (t_spec_l21Chart_split (⟨w1, w3⟩ : Chart21) set_ kind_ w6 (andNotI set_ q16)) fun c48 =>
        some (.inl (c48.list, c48.cells, wr (w6 + 1)))
  else
    some (.inr (w1, w3))
def t_spec_l21Chart_signs (c_ : Chart21) (set_ : Int) (kind_ : Int) : Option Chart21 :=
  obind (loopT (s0_spec_l21Chart_signs set_ kind_) (c_.list, c_.cells, 0)) fun (q9, q11) =>
  some (⟨q9, q11⟩ : Chart21)

theorem tl0_spec_l21Chart_signs (env : Nat → Contract) {B : Base} (he_spec_l21Chart_split : env n_spec_l21Chart_split = .gen (denFn Try.prog ev_spec_l21Chart_split n_spec_l21Chart_split)) (he_spec_l21Chart_try : env n_spec_l21Chart_try = .gen (denFn Try.prog ev_spec_l21Chart_try n_spec_l21Chart_try)) (he_spec_l21Label : env n_spec_l21Label = .pure (C1 (fun c : ByteArray => enc c) t_spec_l21Label)) (o_ : Nat) (set_ : Int) (kind_ : Int)  {st : (Sl Symbol) × (Sl Cell21) × Int} {tm : TM} {h : Heap} (R : (fun (st : (Sl Symbol) × (Sl Cell21) × Int) tm h4 => match st with | (w1, w3, w6) => ∃ z2, tm = [AV.ptr o_ 1 0 0, iv set_, iv kind_, und, und, und, iv w6, AV.top, AV.top, AV.top, AV.top, AV.top, AV.top, AV.top, AV.top, AV.top, AV.top, AV.top, AV.top, AV.top, AV.top, AV.top, AV.top, AV.top, AV.top, AV.top, AV.top, AV.top, AV.top, AV.top, AV.top, AV.top, AV.top, AV.top, AV.top, AV.top, AV.top, AV.top, AV.top, AV.top, AV.top, AV.top, AV.top, AV.top, AV.top, AV.top, AV.top, AV.top, AV.top, AV.top, AV.top] ∧ Hold B h4 [(AV.ptr o_ 1 0 0, .pt 2 [Sl.enc w1, z2]), (z2, obS (w3 : Sl Cell21))]) st tm h) : Sim (loopP hm0_spec_l21Chart_signs xm0_spec_l21Chart_signs (lb0_spec_l21Chart_signs env) tm h) (loopT (s0_spec_l21Chart_signs set_ kind_) st) (fun (q : (Sl Symbol) × (Sl Cell21)) (r : Res) => match q with | (q9, q11) => ∃ (q12 : Int) (z10 : AV) (z13 : AV) (h7 : Heap), r = (.exit 0, [AV.ptr o_ 1 0 0, iv set_, iv kind_, und, und, und, iv q12, z13, AV.top, AV.top, AV.top, AV.top, AV.top, AV.top, AV.top, AV.top, AV.top, AV.top, AV.top, AV.top, AV.top, AV.top, AV.top, AV.top, AV.top, AV.top, AV.top, AV.top, AV.top, AV.top, AV.top, AV.top, AV.top, AV.top, AV.top, AV.top, AV.top, AV.top, AV.top, AV.top, AV.top, AV.top, AV.top, AV.top, AV.top, AV.top, AV.top, AV.top, AV.top, AV.top, AV.top], h7) ∧ Hold B h7 [(AV.ptr o_ 1 0 0, .pt 2 [Sl.enc q9, z10]), (z10, obS (q11 : Sl Cell21))]) := by
  refine loop_sim (Rel := fun (st : (Sl Symbol) × (Sl Cell21) × Int) tm h4 => match st with | (w1, w3, w6) => ∃ z2, tm = [AV.ptr o_ 1 0 0, iv set_, iv kind_, und, und, und, iv w6, AV.top, AV.top, AV.top, AV.top, AV.top, AV.top, AV.top, AV.top, AV.top, AV.top, AV.top, AV.top, AV.top, AV.top, AV.top, AV.top, AV.top, AV.top, AV.top, AV.top, AV.top, AV.top, AV.top, AV.top, AV.top, AV.top, AV.top, AV.top, AV.top, AV.top, AV.top, AV.top, AV.top, AV.top, AV.top, AV.top, AV.top, AV.top, AV.top, AV.top, AV.top, AV.top, AV.top, AV.top] ∧ Hold B h4 [(AV.ptr o_ 1 0 0, .pt 2 [Sl.enc w1, z2]), (z2, obS (w3 : Sl Cell21))]) (fun st tm h4 R => ?_) R
  obtain ⟨w1, w3, w6⟩ := st
  obtain ⟨z2, rfl, O5⟩ := R
  rw [e_lb0_spec_l21Chart_signs]
  unfold s0_spec_l21Chart_signs
  dsimp only
  refine sim_let (v := AV.ptr o_ 1 0 0) rfl ?_
  refine sim_let (v := AV.ptr o_ 1 0 0) rfl ?_
  refine sim_let (v := Sl.enc w1) (O5.ld 0 rfl false 1 0) ?_
  refine sim_let (v := iv (((w1.getD []).length : Nat) : Int)) (Tab.enc h4 w1).len ?_
  refine sim_let (v := bv (decide (w6 < (((w1.getD []).length : Nat) : Int)))) (aBin_lss _ _) ?_
  refine sim_cond (fun c15 => ?_) (fun c15 => ?_)
  · refine sim_shl (fun q16 => ?_)
    refine sim_let (v := iv (andNotI set_ q16)) (aBin_andNot _ _) ?_
    refine sim_let (v := bv (decide (andNotI set_ q16 = set_))) (aCmp_eq _ _) ?_
    refine sim_g11F (e := bv) (fun hb17 => ?_) (fun y24 y25 y26 y27 y28 y29 y30 y31 y32 y33 c23 => ?_)
    · refine sim_o0 ?_
      refine sim_o1 ?_
      refine sim_let (v := AV.ptr o_ 1 0 0) rfl ?_
      refine sim_o0 ?_
      refine sim_o1 ?_
      refine sim_let (v := AV.ptr o_ 1 0 0) rfl ?_
      refine sim_o0 ?_
      refine sim_o1 ?_
      refine sim_let (v := Sl.enc w1) (O5.ld 0 rfl false 1 0) ?_
      refine sim_o0 ?_
      refine sim_o0 ?_
      refine sim_o1 ?_
      refine sim_get (Tab.enc h4 w1) (fun m19 a18 hi20 hm21 => ?_)
      refine sim_o0 ?_
      refine sim_o1 ?_
      refine sim_let (v := elp (Sl.enc w1) m19 0) ((Tab.enc h4 w1).fld _ _ _) ?_
      refine sim_o0 ?_
      refine sim_o1 ?_
      refine sim_let (v := sv a18.label) ((Tab.enc h4 w1).ld hm21 false 1 0) ?_
      refine sim_o0 ?_
      refine sim_o0 ?_
      refine sim_o2 ?_
      refine sim_callQ1 he_spec_l21Label (snapD_int _ _) (fun c22 => ?_)
      refine sim_let2 (hand_plain (by rfl) _ _) ?_
      refine sim_o0 ?_
      refine sim_let (v := bv (!decide (a18.label = c22))) (aCmp_neS _ _) ?_
      exact sim_ret rfl
    · refine sim_let (v := bv (bif decide (andNotI set_ q16 = set_) then true else c23)) (pick_b' _ _ _) ?_
      refine sim_cond (fun c34 => ?_) (fun c34 => ?_)
      · refine sim_let (v := iv (wr (w6 + 1))) (aBin_add _ _) ?_
        exact sim_ret ⟨rfl, _, rfl, O5⟩
      · refine sim_let (v := bv (decide (kind_ = 5))) (aCmp_eq _ _) ?_
        refine sim_cond (fun c36 => ?_) (fun c36 => ?_)
        · have O37 := O5
          refine sim_gen he_spec_l21Chart_try (tg_spec_l21Chart_try (⟨w1, w3⟩ : Chart21) set_ kind_ w6 (andNotI set_ q16) 0 (Hold.startL (L := [(AV.ptr o_ 1 0 0, .pt 2 [Sl.enc w1, z2]), (z2, obS (w3 : Sl Cell21))]) (R := []) O37)) (fun c38 v39 h40 hq41 => ?_)
          obtain ⟨x44, e_v39, O42⟩ := hq41
          dsimp only at e_v39
          subst v39
          have O43 : Hold B h40 [(AV.ptr o_ 1 0 0, .pt 2 [Sl.enc c38.list, x44]), (x44, obS (c38.cells : Sl Cell21))] := Hold.mergeL (L := [(AV.ptr o_ 1 0 0, .pt 2 [Sl.enc w1, z2]), (z2, obS (w3 : Sl Cell21))]) (R := []) O37 O42
          refine sim_let (v := iv (wr (w6 + 1))) (aBin_add _ _) ?_
          exact sim_ret ⟨rfl, _, rfl, O43⟩
        · have O47 := O5
          refine sim_gen he_spec_l21Chart_split (tg_spec_l21Chart_split (⟨w1, w3⟩ : Chart21) set_ kind_ w6 (andNotI set_ q16) (Hold.startL (L := [(AV.ptr o_ 1 0 0, .pt 2 [Sl.enc w1, z2]), (z2, obS (w3 : Sl Cell21))]) (R := []) O47)) (fun c48 v49 h50 hq51 => ?_)
          obtain ⟨x54, e_v49, O52⟩ := hq51
          dsimp only at e_v49
          subst v49
          have O53 : Hold B h50 [(AV.ptr o_ 1 0 0, .pt 2 [Sl.enc c48.list, x54]), (x54, obS (c48.cells : Sl Cell21))] := Hold.mergeL (L := [(AV.ptr o_ 1 0 0, .pt 2 [Sl.enc w1, z2]), (z2, obS (w3 : Sl Cell21))]) (R := []) O47 O52
          refine sim_let (v := iv (wr (w6 + 1))) (aBin_add _ _) ?_
          exact sim_ret ⟨rfl, _, rfl, O53⟩
  · exact sim_ret ⟨nofun, _, _, _, _, rfl, O5⟩
theorem ts_spec_l21Chart_signs (env : Nat → Contract) (he_spec_l21Chart_split : env n_spec_l21Chart_split = .gen (denFn Try.prog ev_spec_l21Chart_split n_spec_l21Chart_split)) (he_spec_l21Chart_try : env n_spec_l21Chart_try = .gen (denFn Try.prog ev_spec_l21Chart_try n_spec_l21Chart_try)) (he_spec_l21Label : env n_spec_l21Label = .pure (C1 (fun c : ByteArray => enc c) t_spec_l21Label)) {B : Base} {h : Heap} {o_ : Nat} {x_cells_ : AV} (c_ : Chart21) (set_ : Int) (kind_ : Int) (O : Hold B h [(AV.ptr o_ 1 0 0, .pt 2 [Sl.enc c_.list, x_cells_]), (x_cells_, obS (c_.cells : Sl Cell21))]) : Sim (denFn Try.prog env n_spec_l21Chart_signs [AV.ptr o_ 1 0 0, iv set_, iv kind_] h) (t_spec_l21Chart_signs c_ set_ kind_) (fun c p => ∃ x1, p.1 = und ∧ Hold B p.2 ([(AV.ptr o_ 1 0 0, .pt 2 [Sl.enc c.list, x1]), (x1, obS (c.cells : Sl Cell21))])) := by
  rw [e_spec_l21Chart_signs]
  unfold t_spec_l21Chart_signs
  refine sim_bind ((tl0_spec_l21Chart_signs env he_spec_l21Chart_split he_spec_l21Chart_try he_spec_l21Label o_ set_ kind_) ⟨_, rfl, O⟩) (fun qq59 r hq => ?_)
  obtain ⟨q9, q11⟩ := qq59
  obtain ⟨q12, z10, z13, h7, rfl, O8⟩ := hq
  rw [e_lk0x0_spec_l21Chart_signs]
  exact sim_ret ⟨_, rfl, O8⟩
noncomputable def ev_spec_l21Chart_signs : Nat → Contract := envL [(n_spec_l21Chart_split, .gen (denFn Try.prog ev_spec_l21Chart_split n_spec_l21Chart_split)), (n_spec_l21Chart_try, .gen (denFn Try.prog ev_spec_l21Chart_try n_spec_l21Chart_try)), (n_spec_l21Label, .pure (C1 (fun c : ByteArray => enc c) t_spec_l21Label))]
theorem eo_spec_l21Chart_signs : EnvOK Try.prog ev_spec_l21Chart_signs := (EconsG (gen_of_den eo_spec_l21Chart_split mixed hb_spec_l21Chart_split) (EconsG (gen_of_den eo_spec_l21Chart_try mixed hb_spec_l21Chart_try) (Econs tt_spec_l21Label E0)))
theorem tg_spec_l21Chart_signs {B : Base} {h : Heap} {o_ : Nat} {x_cells_ : AV} (c_ : Chart21) (set_ : Int) (kind_ : Int) (O : Hold B h [(AV.ptr o_ 1 0 0, .pt 2 [Sl.enc c_.list, x_cells_]), (x_cells_, obS (c_.cells : Sl Cell21))]) : Sim (denFn Try.prog ev_spec_l21Chart_signs n_spec_l21Chart_signs [AV.ptr o_ 1 0 0, iv set_, iv kind_] h) (t_spec_l21Chart_signs c_ set_ kind_) (fun c p => ∃ x1, p.1 = und ∧ Hold B p.2 ([(AV.ptr o_ 1 0 0, .pt 2 [Sl.enc c.list, x1]), (x1, obS (c.cells : Sl Cell21))])) := ts_spec_l21Chart_signs ev_spec_l21Chart_signs (by simp [ev_spec_l21Chart_signs, envL]) (by simp [ev_spec_l21Chart_signs, envL]) (by simp [ev_spec_l21Chart_signs, envL]) c_ set_ kind_  O

def s0_spec_l21Chart_fill (c_ : Chart21) (set_ : Int) : ((Sl Cell21) × Int × Int) → Option (Sum ((Sl Cell21) × Int × Int) ((Sl Cell21) × Int)) := fun (w1, w4, w5) =>
  bif decide (w5 < (((c_.list.getD []).length : Nat) : Int)) then
    obind (shrO set_ w5) fun q66 =>
    bif decide (andI q66 1 = 0) then
      some (.inl (w1, w4, wr (w5 + 1)))
    else
      bif decide (w4 = 0) then
        obind (getI (c_.list.getD []) w5) fun a70 =>
        obind (getI (w1.getD []) set_) fun a74 =>
        obind (getI ((setS w1 set_ (⟨⟨a70.box.x1, a70.box.y1, a70.box.x2, a70.box.y2⟩, a74.ways, a74.cost, a74.kind, a74.sign, a74.first, a74.rest⟩ : Cell21)).getD []) set_) fun a80 =>
        obind (getI (c_.list.getD []) w5) fun a84 =>
        obind (some (joinBox a80.box a84.box)) fun c88 =>
        obind (getI ((setS w1 set_ (⟨⟨a70.box.x1, a70.box.y1, a70.box.x2, a70.box.y2⟩, a74.ways, a74.cost, a74.kind, a74.sign, a74.first, a74.rest⟩ : Cell21)).getD []) set_) fun a89 =>
        obind (getI ((setS (setS w1 set_ (⟨⟨a70.box.x1, a70.box.y1, a70.box.x2, a70.box.y2⟩, a74.ways, a74.cost, a74.kind, a74.sign, a74.first, a74.rest⟩ : Cell21)) set_ (⟨⟨c88.x1, c88.y1, c88.x2, c88.y2⟩, a89.ways, a89.cost, a89.kind, a89.sign, a89.first, a89.rest⟩ : Cell21)).getD []) set_) fun a95 =>
        some (.inl ((setS (setS (setS w1 set_ (⟨⟨a70.box.x1, a70.box.y1, a70.box.x2, a70.box.y2⟩, a74.ways, a74.cost, a74.kind, a74.sign, a74.first, a74.rest⟩ : Cell21)) set_ (⟨⟨c88.x1, c88.y1, c88.x2, c88.y2⟩, a89.ways, a89.cost, a89.kind, a89.sign, a89.first, a89.rest⟩ : Cell21)) set_ (⟨⟨a95.box.x1, a95.box.y1, a95.box.x2, a95.box.y2⟩, a95.ways, a95.cost, a95.kind, w5, a95.first, a95.rest⟩ : Cell21)), wr (w4 + 1), wr (w5 + 1)))
      else
        obind (getI (w1.getD []) set_) fun a102 =>
        obind (getI (c_.list.getD []) w5) fun a106 =>
        obind (some (joinBox a102.box a106.box)) fun c110 =>
        obind (getI (w1.getD []) set_) fun a111 =>
        obind (getI ((setS w1 set_ (⟨⟨c110.x1, c110.y1, c110.x2, c110.y2⟩, a111.ways, a111.cost, a111.kind, a111.sign, a111.first, a111.rest⟩ : Cell21)).getD []) set_) fun a117 =>
        some (.inl ((setS (setS w1 set_ (⟨⟨c110.x1, c110.y1, c110.x2, c110.y2⟩, a111.ways, a111.cost, a111.kind, a111.sign, a111.first, a111.rest⟩ : Cell21)) set_ (⟨⟨a117.box.x1, a117.box.y1, a117.box.x2, a117.box.y2⟩, a117.ways, a117.cost, a117.kind, w5, a117.first, a117.rest⟩ : Cell21)), wr (w4 + 1), wr (w5 + 1)))
  else
    some (.inr (w1, w4))
def t_spec_l21Chart_fill (c_ : Chart21) (set_ : Int) : Option Chart21 :=
  obind (loopT (s0_spec_l21Chart_fill c_ set_) (c_.cells, 0, 0)) fun (q8, q9) =>
  bif decide (q9 = 1) then
    obind (getI (q8.getD []) set_) fun a12 =>
    some (⟨c_.list, (setS q8 set_ (⟨⟨a12.box.x1, a12.box.y1, a12.box.x2, a12.box.y2⟩, 1, a12.cost, a12.kind, a12.sign, a12.first, a12.rest⟩ : Cell21))⟩ : Chart21)
  else
    obind (t_spec_l21Chart_split (⟨c_.list, q8⟩ : Chart21) set_ 1 0 set_) fun c20 =>
    obind (t_spec_l21Chart_signs c20 set_ 2) fun c29 =>
    obind (t_spec_l21Chart_split c29 set_ 3 0 set_) fun c38 =>
    obind (t_spec_l21Chart_split c38 set_ 4 0 set_) fun c47 =>
    obind (t_spec_l21Chart_signs c47 set_ 5) fun c56 =>
    some (⟨c56.list, c56.cells⟩ : Chart21)

theorem tl0_spec_l21Chart_fill (env : Nat → Contract) {B : Base} (he_spec_l02Join : env n_spec_l02Join = .pure (T2 joinBox)) (he_spec_l21Chart_signs : env n_spec_l21Chart_signs = .gen (denFn Try.prog ev_spec_l21Chart_signs n_spec_l21Chart_signs)) (he_spec_l21Chart_split : env n_spec_l21Chart_split = .gen (denFn Try.prog ev_spec_l21Chart_split n_spec_l21Chart_split)) (c_ : Chart21) (o_ : Nat) (set_ : Int) (x_cells_ : AV)  {st : (Sl Cell21) × Int × Int} {tm : TM} {h : Heap} (R : (fun (st : (Sl Cell21) × Int × Int) tm h2 => match st with | (w1, w4, w5) => tm = ((AV.ptr o_ 1 0 0) :: (iv set_) :: und :: und :: (iv w4) :: (iv w5) :: AV.top :: AV.top :: AV.top :: AV.top :: AV.top :: AV.top :: AV.top :: AV.top :: AV.top :: AV.top :: AV.top :: AV.top :: AV.top :: AV.top :: AV.top :: AV.top :: AV.top :: AV.top :: AV.top :: AV.top :: AV.top :: AV.top :: AV.top :: AV.top :: AV.top :: AV.top :: AV.top :: AV.top :: AV.top :: AV.top :: AV.top :: AV.top :: AV.top :: AV.top :: AV.top :: AV.top :: AV.top :: AV.top :: AV.top :: AV.top :: AV.top :: AV.top :: AV.top :: AV.top :: AV.top :: AV.top :: AV.top :: AV.top :: AV.top :: AV.top :: AV.top :: AV.top :: AV.top :: AV.top :: AV.top :: AV.top :: AV.top :: AV.top :: AV.top :: AV.top :: AV.top :: AV.top :: AV.top :: AV.top :: AV.top :: und :: und :: und :: und :: und :: und :: und :: und :: und :: und :: und :: und :: und :: und :: und :: und :: und :: und :: und :: und :: und :: und :: und :: und :: und :: und :: und :: []) ∧ Hold B h2 [(AV.ptr o_ 1 0 0, .pt 2 [Sl.enc c_.list, x_cells_]), (x_cells_, obS (w1 : Sl Cell21))]) st tm h) : Sim (loopP hm0_spec_l21Chart_fill xm0_spec_l21Chart_fill (lb0_spec_l21Chart_fill env) tm h) (loopT (s0_spec_l21Chart_fill c_ set_) st) (fun (q : (Sl Cell21) × Int) (r : Res) => match q with | (q8, q9) => ∃ (q10 : Int) (h6 : Heap), r = (.exit 0, ((AV.ptr o_ 1 0 0) :: (iv set_) :: und :: und :: (iv q9) :: (iv q10) :: AV.top :: AV.top :: AV.top :: AV.top :: AV.top :: AV.top :: AV.top :: AV.top :: AV.top :: AV.top :: AV.top :: AV.top :: AV.top :: AV.top :: AV.top :: AV.top :: AV.top :: AV.top :: AV.top :: AV.top :: AV.top :: AV.top :: AV.top :: AV.top :: AV.top :: AV.top :: AV.top :: AV.top :: AV.top :: AV.top :: AV.top :: AV.top :: AV.top :: AV.top :: AV.top :: AV.top :: AV.top :: AV.top :: AV.top :: AV.top :: AV.top :: AV.top :: AV.top :: AV.top :: AV.top :: AV.top :: AV.top :: AV.top :: AV.top :: AV.top :: AV.top :: AV.top :: AV.top :: AV.top :: AV.top :: AV.top :: AV.top :: AV.top :: AV.top :: AV.top :: AV.top :: AV.top :: AV.top :: AV.top :: AV.top :: und :: und :: und :: und :: und :: und :: und :: und :: und :: und :: und :: und :: und :: und :: und :: und :: und :: und :: und :: und :: und :: und :: und :: und :: und :: und :: und :: []), h6) ∧ Hold B h6 [(AV.ptr o_ 1 0 0, .pt 2 [Sl.enc c_.list, x_cells_]), (x_cells_, obS (q8 : Sl Cell21))]) := by
  refine loop_sim (Rel := fun (st : (Sl Cell21) × Int × Int) tm h2 => match st with | (w1, w4, w5) => tm = ((AV.ptr o_ 1 0 0) :: (iv set_) :: und :: und :: (iv w4) :: (iv w5) :: AV.top :: AV.top :: AV.top :: AV.top :: AV.top :: AV.top :: AV.top :: AV.top :: AV.top :: AV.top :: AV.top :: AV.top :: AV.top :: AV.top :: AV.top :: AV.top :: AV.top :: AV.top :: AV.top :: AV.top :: AV.top :: AV.top :: AV.top :: AV.top :: AV.top :: AV.top :: AV.top :: AV.top :: AV.top :: AV.top :: AV.top :: AV.top :: AV.top :: AV.top :: AV.top :: AV.top :: AV.top :: AV.top :: AV.top :: AV.top :: AV.top :: AV.top :: AV.top :: AV.top :: AV.top :: AV.top :: AV.top :: AV.top :: AV.top :: AV.top :: AV.top :: AV.top :: AV.top :: AV.top :: AV.top :: AV.top :: AV.top :: AV.top :: AV.top :: AV.top :: AV.top :: AV.top :: AV.top :: AV.top :: AV.top :: und :: und :: und :: und :: und :: und :: und :: und :: und :: und :: und :: und :: und :: und :: und :: und :: und :: und :: und :: und :: und :: und :: und :: und :: und :: und :: und :: []) ∧ Hold B h2 [(AV.ptr o_ 1 0 0, .pt 2 [Sl.enc c_.list, x_cells_]), (x_cells_, obS (w1 : Sl Cell21))]) (fun st tm h2 R => ?_) R
  obtain ⟨w1, w4, w5⟩ := st
  obtain ⟨rfl, O3⟩ := R
  rw [e_lb0_spec_l21Chart_fill]
  unfold s0_spec_l21Chart_fill
  dsimp only
  refine sim_let (v := AV.ptr o_ 1 0 0) rfl ?_
  refine sim_let (v := AV.ptr o_ 1 0 0) rfl ?_
  refine sim_let (v := Sl.enc c_.list) (O3.ld 0 rfl false 1 0) ?_
  refine sim_let (v := iv (((c_.list.getD []).length : Nat) : Int)) (Tab.enc h2 c_.list).len ?_
  refine sim_let (v := bv (decide (w5 < (((c_.list.getD []).length : Nat) : Int)))) (aBin_lss _ _) ?_
  refine sim_cond (fun c65 => ?_) (fun c65 => ?_)
  · refine sim_shr (fun q66 => ?_)
    refine sim_let (v := iv (andI q66 1)) (aBin_and _ _) ?_
    refine sim_let (v := bv (decide (andI q66 1 = 0))) (aCmp_eq _ _) ?_
    refine sim_cond (fun c67 => ?_) (fun c67 => ?_)
    · refine sim_let (v := iv (wr (w5 + 1))) (aBin_add _ _) ?_
      exact sim_ret ⟨rfl, rfl, O3⟩
    · refine sim_let (v := bv (decide (w4 = 0))) (aCmp_eq _ _) ?_
      refine sim_cond (fun c69 => ?_) (fun c69 => ?_)
      · refine sim_let (v := AV.ptr o_ 1 0 0) rfl ?_
        refine sim_let (v := AV.ptr o_ 1 0 1) rfl ?_
        refine sim_let (v := x_cells_) (O3.ld 0 rfl false 1 1) ?_
        refine sim_let (v := AV.ptr o_ 1 0 0) rfl ?_
        refine sim_let (v := AV.ptr o_ 1 0 0) rfl ?_
        refine sim_let (v := Sl.enc c_.list) (O3.ld 0 rfl false 1 0) ?_
        refine sim_get (Tab.enc h2 c_.list) (fun m71 a70 hi72 hm73 => ?_)
        refine sim_let (v := elp (Sl.enc c_.list) m71 1) ((Tab.enc h2 c_.list).fld _ _ _) ?_
        refine sim_let (v := AV.agg [iv a70.box.x1, iv a70.box.y1, iv a70.box.x2, iv a70.box.y2]) ((Tab.enc h2 c_.list).ld hm73 true 4 1) ?_
        refine sim_get (O3.tab (A := Cell21) (s := w1) 1 rfl) (fun m75 a74 hi76 hm77 => ?_)
        refine sim_let (v := elp x_cells_ m75 0) ((O3.tab (A := Cell21) (s := w1) 1 rfl).fld _ _ _) ?_
        refine sim_set (A := Cell21) O3 1 (⟨⟨a70.box.x1, a70.box.y1, a70.box.x2, a70.box.y2⟩, a74.ways, a74.cost, a74.kind, a74.sign, a74.first, a74.rest⟩ : Cell21) rfl hi76 hm77 rfl (by simp) (by first | rfl | simp) (by first | rfl | simp [splice]) (fun h78 O79 => ?_)
        replace O79 : Hold B h78 [(AV.ptr o_ 1 0 0, .pt 2 [Sl.enc c_.list, x_cells_]), (x_cells_, obS ((setS w1 set_ (⟨⟨a70.box.x1, a70.box.y1, a70.box.x2, a70.box.y2⟩, a74.ways, a74.cost, a74.kind, a74.sign, a74.first, a74.rest⟩ : Cell21)) : Sl Cell21))] := O79
        refine sim_let (v := AV.ptr o_ 1 0 0) rfl ?_
        refine sim_let (v := AV.ptr o_ 1 0 1) rfl ?_
        refine sim_let (v := x_cells_) (O79.ld 0 rfl false 1 1) ?_
        refine sim_let (v := AV.ptr o_ 1 0 0) rfl ?_
        refine sim_let (v := AV.ptr o_ 1 0 1) rfl ?_
        refine sim_let (v := x_cells_) (O79.ld 0 rfl false 1 1) ?_
        refine sim_get (O79.tab (A := Cell21) (s := (setS w1 set_ (⟨⟨a70.box.x1, a70.box.y1, a70.box.x2, a70.box.y2⟩, a74.ways, a74.cost, a74.kind, a74.sign, a74.first, a74.rest⟩ : Cell21))) 1 rfl) (fun m81 a80 hi82 hm83 => ?_)
        refine sim_let (v := elp x_cells_ m81 0) ((O79.tab (A := Cell21) (s := (setS w1 set_ (⟨⟨a70.box.x1, a70.box.y1, a70.box.x2, a70.box.y2⟩, a74.ways, a74.cost, a74.kind, a74.sign, a74.first, a74.rest⟩ : Cell21))) 1 rfl).fld _ _ _) ?_
        refine sim_let (v := AV.agg [iv a80.box.x1, iv a80.box.y1, iv a80.box.x2, iv a80.box.y2]) ((O79.tab (A := Cell21) (s := (setS w1 set_ (⟨⟨a70.box.x1, a70.box.y1, a70.box.x2, a70.box.y2⟩, a74.ways, a74.cost, a74.kind, a74.sign, a74.first, a74.rest⟩ : Cell21))) 1 rfl).ld hm83 true 4 0) ?_
        refine sim_let (v := AV.ptr o_ 1 0 0) rfl ?_
        refine sim_let (v := AV.ptr o_ 1 0 0) rfl ?_
        refine sim_let (v := Sl.enc c_.list) (O79.ld 0 rfl false 1 0) ?_
        refine sim_get (Tab.enc h78 c_.list) (fun m85 a84 hi86 hm87 => ?_)
        refine sim_let (v := elp (Sl.enc c_.list) m85 1) ((Tab.enc h78 c_.list).fld _ _ _) ?_
        refine sim_let (v := AV.agg [iv a84.box.x1, iv a84.box.y1, iv a84.box.x2, iv a84.box.y2]) ((Tab.enc h78 c_.list).ld hm87 true 4 1) ?_
        refine sim_callVQ2 (t := joinBox) he_spec_l02Join (snapD_nr _ a80.box rfl) (snapD_nr _ a84.box rfl) (fun c88 => ?_)
        refine sim_get (O79.tab (A := Cell21) (s := (setS w1 set_ (⟨⟨a70.box.x1, a70.box.y1, a70.box.x2, a70.box.y2⟩, a74.ways, a74.cost, a74.kind, a74.sign, a74.first, a74.rest⟩ : Cell21))) 1 rfl) (fun m90 a89 hi91 hm92 => ?_)
        refine sim_let (v := elp x_cells_ m90 0) ((O79.tab (A := Cell21) (s := (setS w1 set_ (⟨⟨a70.box.x1, a70.box.y1, a70.box.x2, a70.box.y2⟩, a74.ways, a74.cost, a74.kind, a74.sign, a74.first, a74.rest⟩ : Cell21))) 1 rfl).fld _ _ _) ?_
        refine sim_set (A := Cell21) O79 1 (⟨⟨c88.x1, c88.y1, c88.x2, c88.y2⟩, a89.ways, a89.cost, a89.kind, a89.sign, a89.first, a89.rest⟩ : Cell21) rfl hi91 hm92 rfl (by simp) (by first | rfl | simp) (by first | rfl | simp [splice]) (fun h93 O94 => ?_)
        replace O94 : Hold B h93 [(AV.ptr o_ 1 0 0, .pt 2 [Sl.enc c_.list, x_cells_]), (x_cells_, obS ((setS (setS w1 set_ (⟨⟨a70.box.x1, a70.box.y1, a70.box.x2, a70.box.y2⟩, a74.ways, a74.cost, a74.kind, a74.sign, a74.first, a74.rest⟩ : Cell21)) set_ (⟨⟨c88.x1, c88.y1, c88.x2, c88.y2⟩, a89.ways, a89.cost, a89.kind, a89.sign, a89.first, a89.rest⟩ : Cell21)) : Sl Cell21))] := O94
        refine sim_let (v := iv (wr (w4 + 1))) (aBin_add _ _) ?_
        refine sim_let (v := AV.ptr o_ 1 0 0) rfl ?_
        refine sim_let (v := AV.ptr o_ 1 0 1) rfl ?_
        refine sim_let (v := x_cells_) (O94.ld 0 rfl false 1 1) ?_
        refine sim_get (O94.tab (A := Cell21) (s := (setS (setS w1 set_ (⟨⟨a70.box.x1, a70.box.y1, a70.box.x2, a70.box.y2⟩, a74.ways, a74.cost, a74.kind, a74.sign, a74.first, a74.rest⟩ : Cell21)) set_ (⟨⟨c88.x1, c88.y1, c88.x2, c88.y2⟩, a89.ways, a89.cost, a89.kind, a89.sign, a89.first, a89.rest⟩ : Cell21))) 1 rfl) (fun m96 a95 hi97 hm98 => ?_)
        refine sim_let (v := elp x_cells_ m96 7) ((O94.tab (A := Cell21) (s := (setS (setS w1 set_ (⟨⟨a70.box.x1, a70.box.y1, a70.box.x2, a70.box.y2⟩, a74.ways, a74.cost, a74.kind, a74.sign, a74.first, a74.rest⟩ : Cell21)) set_ (⟨⟨c88.x1, c88.y1, c88.x2, c88.y2⟩, a89.ways, a89.cost, a89.kind, a89.sign, a89.first, a89.rest⟩ : Cell21))) 1 rfl).fld _ _ _) ?_
        refine sim_set (A := Cell21) O94 1 (⟨⟨a95.box.x1, a95.box.y1, a95.box.x2, a95.box.y2⟩, a95.ways, a95.cost, a95.kind, w5, a95.first, a95.rest⟩ : Cell21) rfl hi97 hm98 rfl (by simp) (by first | rfl | simp) (by first | rfl | simp [splice]) (fun h99 O100 => ?_)
        replace O100 : Hold B h99 [(AV.ptr o_ 1 0 0, .pt 2 [Sl.enc c_.list, x_cells_]), (x_cells_, obS ((setS (setS (setS w1 set_ (⟨⟨a70.box.x1, a70.box.y1, a70.box.x2, a70.box.y2⟩, a74.ways, a74.cost, a74.kind, a74.sign, a74.first, a74.rest⟩ : Cell21)) set_ (⟨⟨c88.x1, c88.y1, c88.x2, c88.y2⟩, a89.ways, a89.cost, a89.kind, a89.sign, a89.first, a89.rest⟩ : Cell21)) set_ (⟨⟨a95.box.x1, a95.box.y1, a95.box.x2, a95.box.y2⟩, a95.ways, a95.cost, a95.kind, w5, a95.first, a95.rest⟩ : Cell21)) : Sl Cell21))] := O100
        refine sim_let (v := iv (wr (w5 + 1))) (aBin_add _ _) ?_
        exact sim_ret ⟨rfl, rfl, O100⟩
      · refine sim_let (v := AV.ptr o_ 1 0 0) rfl ?_
        refine sim_let (v := AV.ptr o_ 1 0 1) rfl ?_
        refine sim_let (v := x_cells_) (O3.ld 0 rfl false 1 1) ?_
        refine sim_let (v := AV.ptr o_ 1 0 0) rfl ?_
        refine sim_let (v := AV.ptr o_ 1 0 1) rfl ?_
        refine sim_let (v := x_cells_) (O3.ld 0 rfl false 1 1) ?_
        refine sim_get (O3.tab (A := Cell21) (s := w1) 1 rfl) (fun m103 a102 hi104 hm105 => ?_)
        refine sim_let (v := elp x_cells_ m103 0) ((O3.tab (A := Cell21) (s := w1) 1 rfl).fld _ _ _) ?_
        refine sim_let (v := AV.agg [iv a102.box.x1, iv a102.box.y1, iv a102.box.x2, iv a102.box.y2]) ((O3.tab (A := Cell21) (s := w1) 1 rfl).ld hm105 true 4 0) ?_
        refine sim_let (v := AV.ptr o_ 1 0 0) rfl ?_
        refine sim_let (v := AV.ptr o_ 1 0 0) rfl ?_
        refine sim_let (v := Sl.enc c_.list) (O3.ld 0 rfl false 1 0) ?_
        refine sim_get (Tab.enc h2 c_.list) (fun m107 a106 hi108 hm109 => ?_)
        refine sim_let (v := elp (Sl.enc c_.list) m107 1) ((Tab.enc h2 c_.list).fld _ _ _) ?_
        refine sim_let (v := AV.agg [iv a106.box.x1, iv a106.box.y1, iv a106.box.x2, iv a106.box.y2]) ((Tab.enc h2 c_.list).ld hm109 true 4 1) ?_
        refine sim_callVQ2 (t := joinBox) he_spec_l02Join (snapD_nr _ a102.box rfl) (snapD_nr _ a106.box rfl) (fun c110 => ?_)
        refine sim_get (O3.tab (A := Cell21) (s := w1) 1 rfl) (fun m112 a111 hi113 hm114 => ?_)
        refine sim_let (v := elp x_cells_ m112 0) ((O3.tab (A := Cell21) (s := w1) 1 rfl).fld _ _ _) ?_
        refine sim_set (A := Cell21) O3 1 (⟨⟨c110.x1, c110.y1, c110.x2, c110.y2⟩, a111.ways, a111.cost, a111.kind, a111.sign, a111.first, a111.rest⟩ : Cell21) rfl hi113 hm114 rfl (by simp) (by first | rfl | simp) (by first | rfl | simp [splice]) (fun h115 O116 => ?_)
        replace O116 : Hold B h115 [(AV.ptr o_ 1 0 0, .pt 2 [Sl.enc c_.list, x_cells_]), (x_cells_, obS ((setS w1 set_ (⟨⟨c110.x1, c110.y1, c110.x2, c110.y2⟩, a111.ways, a111.cost, a111.kind, a111.sign, a111.first, a111.rest⟩ : Cell21)) : Sl Cell21))] := O116
        refine sim_let (v := iv (wr (w4 + 1))) (aBin_add _ _) ?_
        refine sim_let (v := AV.ptr o_ 1 0 0) rfl ?_
        refine sim_let (v := AV.ptr o_ 1 0 1) rfl ?_
        refine sim_let (v := x_cells_) (O116.ld 0 rfl false 1 1) ?_
        refine sim_get (O116.tab (A := Cell21) (s := (setS w1 set_ (⟨⟨c110.x1, c110.y1, c110.x2, c110.y2⟩, a111.ways, a111.cost, a111.kind, a111.sign, a111.first, a111.rest⟩ : Cell21))) 1 rfl) (fun m118 a117 hi119 hm120 => ?_)
        refine sim_let (v := elp x_cells_ m118 7) ((O116.tab (A := Cell21) (s := (setS w1 set_ (⟨⟨c110.x1, c110.y1, c110.x2, c110.y2⟩, a111.ways, a111.cost, a111.kind, a111.sign, a111.first, a111.rest⟩ : Cell21))) 1 rfl).fld _ _ _) ?_
        refine sim_set (A := Cell21) O116 1 (⟨⟨a117.box.x1, a117.box.y1, a117.box.x2, a117.box.y2⟩, a117.ways, a117.cost, a117.kind, w5, a117.first, a117.rest⟩ : Cell21) rfl hi119 hm120 rfl (by simp) (by first | rfl | simp) (by first | rfl | simp [splice]) (fun h121 O122 => ?_)
        replace O122 : Hold B h121 [(AV.ptr o_ 1 0 0, .pt 2 [Sl.enc c_.list, x_cells_]), (x_cells_, obS ((setS (setS w1 set_ (⟨⟨c110.x1, c110.y1, c110.x2, c110.y2⟩, a111.ways, a111.cost, a111.kind, a111.sign, a111.first, a111.rest⟩ : Cell21)) set_ (⟨⟨a117.box.x1, a117.box.y1, a117.box.x2, a117.box.y2⟩, a117.ways, a117.cost, a117.kind, w5, a117.first, a117.rest⟩ : Cell21)) : Sl Cell21))] := O122
        refine sim_let (v := iv (wr (w5 + 1))) (aBin_add _ _) ?_
        exact sim_ret ⟨rfl, rfl, O122⟩
  · exact sim_ret ⟨nofun, _, _, rfl, O3⟩
theorem ts_spec_l21Chart_fill (env : Nat → Contract) (he_spec_l02Join : env n_spec_l02Join = .pure (T2 joinBox)) (he_spec_l21Chart_signs : env n_spec_l21Chart_signs = .gen (denFn Try.prog ev_spec_l21Chart_signs n_spec_l21Chart_signs)) (he_spec_l21Chart_split : env n_spec_l21Chart_split = .gen (denFn Try.prog ev_spec_l21Chart_split n_spec_l21Chart_split)) {B : Base} {h : Heap} {o_ : Nat} {x_cells_ : AV} (c_ : Chart21) (set_ : Int) (O : Hold B h [(AV.ptr o_ 1 0 0, .pt 2 [Sl.enc c_.list, x_cells_]), (x_cells_, obS (c_.cells : Sl Cell21))]) : Sim (denFn Try.prog env n_spec_l21Chart_fill [AV.ptr o_ 1 0 0, iv set_] h) (t_spec_l21Chart_fill c_ set_) (fun c p => ∃ x1, p.1 = und ∧ Hold B p.2 ([(AV.ptr o_ 1 0 0, .pt 2 [Sl.enc c.list, x1]), (x1, obS (c.cells : Sl Cell21))])) := by
  rw [e_spec_l21Chart_fill]
  unfold t_spec_l21Chart_fill
  refine sim_bind ((tl0_spec_l21Chart_fill env he_spec_l02Join he_spec_l21Chart_signs he_spec_l21Chart_split c_ o_ set_ x_cells_) ⟨rfl, O⟩) (fun qq126 r hq => ?_)
  obtain ⟨q8, q9⟩ := qq126
  obtain ⟨q10, h6, rfl, O7⟩ := hq
  rw [e_lk0x0_spec_l21Chart_fill]
  refine sim_let (v := bv (decide (q9 = 1))) (aCmp_eq _ _) ?_
  refine sim_cond (fun c11 => ?_) (fun c11 => ?_)
  · refine sim_let (v := AV.ptr o_ 1 0 0) rfl ?_
    refine sim_let (v := AV.ptr o_ 1 0 1) rfl ?_
    refine sim_let (v := x_cells_) (O7.ld 0 rfl false 1 1) ?_
    refine sim_get (O7.tab (A := Cell21) (s := q8) 1 rfl) (fun m13 a12 hi14 hm15 => ?_)
    refine sim_let (v := elp x_cells_ m13 4) ((O7.tab (A := Cell21) (s := q8) 1 rfl).fld _ _ _) ?_
    refine sim_set (A := Cell21) O7 1 (⟨⟨a12.box.x1, a12.box.y1, a12.box.x2, a12.box.y2⟩, 1, a12.cost, a12.kind, a12.sign, a12.first, a12.rest⟩ : Cell21) rfl hi14 hm15 rfl (by simp) (by first | rfl | simp) (by first | rfl | simp [splice]) (fun h16 O17 => ?_)
    replace O17 : Hold B h16 [(AV.ptr o_ 1 0 0, .pt 2 [Sl.enc c_.list, x_cells_]), (x_cells_, obS ((setS q8 set_ (⟨⟨a12.box.x1, a12.box.y1, a12.box.x2, a12.box.y2⟩, 1, a12.cost, a12.kind, a12.sign, a12.first, a12.rest⟩ : Cell21)) : Sl Cell21))] := O17
    exact sim_ret ⟨_, rfl, O17⟩
  · have O19 := O7
    refine sim_gen he_spec_l21Chart_split (tg_spec_l21Chart_split (⟨c_.list, q8⟩ : Chart21) set_ 1 0 set_ (Hold.startL (L := [(AV.ptr o_ 1 0 0, .pt 2 [Sl.enc c_.list, x_cells_]), (x_cells_, obS (q8 : Sl Cell21))]) (R := []) O19)) (fun c20 v21 h22 hq23 => ?_)
    obtain ⟨x26, e_v21, O24⟩ := hq23
    dsimp only at e_v21
    subst v21
    have O25 : Hold B h22 [(AV.ptr o_ 1 0 0, .pt 2 [Sl.enc c20.list, x26]), (x26, obS (c20.cells : Sl Cell21))] := Hold.mergeL (L := [(AV.ptr o_ 1 0 0, .pt 2 [Sl.enc c_.list, x_cells_]), (x_cells_, obS (q8 : Sl Cell21))]) (R := []) O19 O24
    have O28 := O25
    refine sim_gen he_spec_l21Chart_signs (tg_spec_l21Chart_signs c20 set_ 2 (Hold.startL (L := [(AV.ptr o_ 1 0 0, .pt 2 [Sl.enc c20.list, x26]), (x26, obS (c20.cells : Sl Cell21))]) (R := []) O28)) (fun c29 v30 h31 hq32 => ?_)
    obtain ⟨x35, e_v30, O33⟩ := hq32
    dsimp only at e_v30
    subst v30
    have O34 : Hold B h31 [(AV.ptr o_ 1 0 0, .pt 2 [Sl.enc c29.list, x35]), (x35, obS (c29.cells : Sl Cell21))] := Hold.mergeL (L := [(AV.ptr o_ 1 0 0, .pt 2 [Sl.enc c20.list, x26]), (x26, obS (c20.cells : Sl Cell21))]) (R := []) O28 O33
    have O37 := O34
    refine sim_gen he_spec_l21Chart_split (tg_spec_l21Chart_split c29 set_ 3 0 set_ (Hold.startL (L := [(AV.ptr o_ 1 0 0, .pt 2 [Sl.enc c29.list, x35]), (x35, obS (c29.cells : Sl Cell21))]) (R := []) O37)) (fun c38 v39 h40 hq41 => ?_)
    obtain ⟨x44, e_v39, O42⟩ := hq41
    dsimp only at e_v39
    subst v39
    have O43 : Hold B h40 [(AV.ptr o_ 1 0 0, .pt 2 [Sl.enc c38.list, x44]), (x44, obS (c38.cells : Sl Cell21))] := Hold.mergeL (L := [(AV.ptr o_ 1 0 0, .pt 2 [Sl.enc c29.list, x35]), (x35, obS (c29.cells : Sl Cell21))]) (R := []) O37 O42
    have O46 := O43
    refine sim_gen he_spec_l21Chart_split (tg_spec_l21Chart_split c38 set_ 4 0 set_ (Hold.startL (L := [(AV.ptr o_ 1 0 0, .pt 2 [Sl.enc c38.list, x44]), (x44, obS (c38.cells : Sl Cell21))]) (R := []) O46)) (fun c47 v48 h49 hq50 => ?_)
    obtain ⟨x53, e_v48, O51⟩ := hq50
    dsimp only at e_v48
    subst v48
    have O52 : Hold B h49 [(AV.ptr o_ 1 0 0, .pt 2 [Sl.enc c47.list, x53]), (x53, obS (c47.cells : Sl Cell21))] := Hold.mergeL (L := [(AV.ptr o_ 1 0 0, .pt 2 [Sl.enc c38.list, x44]), (x44, obS (c38.cells : Sl Cell21))]) (R := []) O46 O51
    have O55 := O52
    refine sim_gen he_spec_l21Chart_signs (tg_spec_l21Chart_signs c47 set_ 5 (Hold.startL (L := [(AV.ptr o_ 1 0 0, .pt 2 [Sl.enc c47.list, x53]), (x53, obS (c47.cells : Sl Cell21))]) (R := []) O55)) (fun c56 v57 h58 hq59 => ?_)
    obtain ⟨x62, e_v57, O60⟩ := hq59
    dsimp only at e_v57
    subst v57
    have O61 : Hold B h58 [(AV.ptr o_ 1 0 0, .pt 2 [Sl.enc c56.list, x62]), (x62, obS (c56.cells : Sl Cell21))] := Hold.mergeL (L := [(AV.ptr o_ 1 0 0, .pt 2 [Sl.enc c47.list, x53]), (x53, obS (c47.cells : Sl Cell21))]) (R := []) O55 O60
    exact sim_ret ⟨_, rfl, O61⟩
noncomputable def ev_spec_l21Chart_fill : Nat → Contract := envL [(n_spec_l02Join, .pure (T2 joinBox)), (n_spec_l21Chart_signs, .gen (denFn Try.prog ev_spec_l21Chart_signs n_spec_l21Chart_signs)), (n_spec_l21Chart_split, .gen (denFn Try.prog ev_spec_l21Chart_split n_spec_l21Chart_split))]
theorem eo_spec_l21Chart_fill : EnvOK Try.prog ev_spec_l21Chart_fill := (Econs ok_spec_l02Join (EconsG (gen_of_den eo_spec_l21Chart_signs mixed hb_spec_l21Chart_signs) (EconsG (gen_of_den eo_spec_l21Chart_split mixed hb_spec_l21Chart_split) E0)))
theorem tg_spec_l21Chart_fill {B : Base} {h : Heap} {o_ : Nat} {x_cells_ : AV} (c_ : Chart21) (set_ : Int) (O : Hold B h [(AV.ptr o_ 1 0 0, .pt 2 [Sl.enc c_.list, x_cells_]), (x_cells_, obS (c_.cells : Sl Cell21))]) : Sim (denFn Try.prog ev_spec_l21Chart_fill n_spec_l21Chart_fill [AV.ptr o_ 1 0 0, iv set_] h) (t_spec_l21Chart_fill c_ set_) (fun c p => ∃ x1, p.1 = und ∧ Hold B p.2 ([(AV.ptr o_ 1 0 0, .pt 2 [Sl.enc c.list, x1]), (x1, obS (c.cells : Sl Cell21))])) := ts_spec_l21Chart_fill ev_spec_l21Chart_fill (by simp [ev_spec_l21Chart_fill, envL]) (by simp [ev_spec_l21Chart_fill, envL]) (by simp [ev_spec_l21Chart_fill, envL]) c_ set_  O

def s0_spec_l21Fill : ((Sl Cell21) × (Sl Symbol) × Int) → Option (Sum ((Sl Cell21) × (Sl Symbol) × Int) ((Sl Cell21) × (Sl Symbol))) := fun (w12, w13, w16) =>
  bif decide (w16 < (((w12.getD []).length : Nat) : Int)) then
    obind (t_spec_l21Chart_fill (⟨w13, w12⟩ : Chart21) w16) fun c26 =>
    some (.inl (c26.cells, c26.list, wr (w16 + 1)))
  else
    some (.inr (w12, w13))
def t_spec_l21Fill (list_ : Sl Symbol) : Option Chart21 :=
  obind (shlO 1 (((list_.getD []).length : Nat) : Int)) fun q1 =>
  obind (makeO (⟨⟨0, 0, 0, 0⟩, 0, 0, 0, 0, 0, 0⟩ : Cell21) q1) fun l6 =>
  obind (loopT s0_spec_l21Fill ((some l6), list_, 1)) fun (q20, q21) =>
  some (⟨q21, q20⟩ : Chart21)

theorem tl0_spec_l21Fill (env : Nat → Contract) {B : Base} (he_spec_l21Chart_fill : env n_spec_l21Chart_fill = .gen (denFn Try.prog ev_spec_l21Chart_fill n_spec_l21Chart_fill)) (list_ : Sl Symbol) (q1 : Int) (x2 : AV) (o7 : Nat)  {st : (Sl Cell21) × (Sl Symbol) × Int} {tm : TM} {h : Heap} (R : (fun (st : (Sl Cell21) × (Sl Symbol) × Int) tm h14 => match st with | (w12, w13, w16) => ∃ z11, tm = [Sl.enc list_, und, (AV.sc (.pointer none)), AV.ptr o7 1 0 0, iv w16, Sl.enc list_, Sl.enc list_, iv (((list_.getD []).length : Nat) : Int), iv q1, x2, AV.agg [Sl.enc list_, x2], AV.ptr o7 1 0 0, AV.top, AV.top, AV.top, AV.top, AV.top, AV.top, AV.top, AV.top, AV.top, AV.top, AV.top, AV.top, und] ∧ Hold B h14 [(z11, obS (w12 : Sl Cell21)), (AV.ptr o7 1 0 0, .pt 2 [Sl.enc w13, z11])]) st tm h) : Sim (loopP hm0_spec_l21Fill xm0_spec_l21Fill (lb0_spec_l21Fill env) tm h) (loopT s0_spec_l21Fill st) (fun (q : (Sl Cell21) × (Sl Symbol)) (r : Res) => match q with | (q20, q21) => ∃ (q22 : Int) (z19 : AV) (h17 : Heap), r = (.exit 0, [Sl.enc list_, und, (AV.sc (.pointer none)), AV.ptr o7 1 0 0, iv q22, Sl.enc list_, Sl.enc list_, iv (((list_.getD []).length : Nat) : Int), iv q1, x2, AV.agg [Sl.enc list_, x2], AV.ptr o7 1 0 0, AV.top, AV.top, AV.top, AV.top, AV.top, AV.top, AV.top, AV.top, AV.top, AV.top, AV.top, AV.top, und], h17) ∧ Hold B h17 [(z19, obS (q20 : Sl Cell21)), (AV.ptr o7 1 0 0, .pt 2 [Sl.enc q21, z19])]) := by
  refine loop_sim (Rel := fun (st : (Sl Cell21) × (Sl Symbol) × Int) tm h14 => match st with | (w12, w13, w16) => ∃ z11, tm = [Sl.enc list_, und, (AV.sc (.pointer none)), AV.ptr o7 1 0 0, iv w16, Sl.enc list_, Sl.enc list_, iv (((list_.getD []).length : Nat) : Int), iv q1, x2, AV.agg [Sl.enc list_, x2], AV.ptr o7 1 0 0, AV.top, AV.top, AV.top, AV.top, AV.top, AV.top, AV.top, AV.top, AV.top, AV.top, AV.top, AV.top, und] ∧ Hold B h14 [(z11, obS (w12 : Sl Cell21)), (AV.ptr o7 1 0 0, .pt 2 [Sl.enc w13, z11])]) (fun st tm h14 R => ?_) R
  obtain ⟨w12, w13, w16⟩ := st
  obtain ⟨z11, rfl, O15⟩ := R
  rw [e_lb0_spec_l21Fill]
  unfold s0_spec_l21Fill
  dsimp only
  refine sim_let (v := AV.ptr o7 1 0 0) rfl ?_
  refine sim_let (v := AV.ptr o7 1 0 1) rfl ?_
  refine sim_let (v := z11) (O15.ld 1 rfl false 1 1) ?_
  refine sim_let (v := iv (((w12.getD []).length : Nat) : Int)) (O15.tab (A := Cell21) (s := w12) 0 rfl).len ?_
  refine sim_let (v := bv (decide (w16 < (((w12.getD []).length : Nat) : Int)))) (aBin_lss _ _) ?_
  refine sim_cond (fun c24 => ?_) (fun c24 => ?_)
  · have O25 : Hold B h14 [(AV.ptr o7 1 0 0, .pt 2 [Sl.enc w13, z11]), (z11, obS (w12 : Sl Cell21))] := O15.sel [1, 0] (by decide) rfl
    refine sim_gen he_spec_l21Chart_fill (tg_spec_l21Chart_fill (⟨w13, w12⟩ : Chart21) w16 (Hold.startL (L := [(AV.ptr o7 1 0 0, .pt 2 [Sl.enc w13, z11]), (z11, obS (w12 : Sl Cell21))]) (R := []) O25)) (fun c26 v27 h28 hq29 => ?_)
    obtain ⟨x32, e_v27, O30⟩ := hq29
    dsimp only at e_v27
    subst v27
    have O31 : Hold B h28 [(AV.ptr o7 1 0 0, .pt 2 [Sl.enc c26.list, x32]), (x32, obS (c26.cells : Sl Cell21))] := Hold.mergeL (L := [(AV.ptr o7 1 0 0, .pt 2 [Sl.enc w13, z11]), (z11, obS (w12 : Sl Cell21))]) (R := []) O25 O30
    refine sim_let (v := iv (wr (w16 + 1))) (aBin_add _ _) ?_
    have O34 : Hold B h28 [(x32, obS (c26.cells : Sl Cell21)), (AV.ptr o7 1 0 0, .pt 2 [Sl.enc c26.list, x32])] := O31.sel [1, 0] (by decide) rfl
    exact sim_ret ⟨rfl, _, rfl, O34⟩
  · exact sim_ret ⟨nofun, _, _, _, rfl, O15⟩
theorem ts_spec_l21Fill (env : Nat → Contract) (he_spec_l21Chart_fill : env n_spec_l21Chart_fill = .gen (denFn Try.prog ev_spec_l21Chart_fill n_spec_l21Chart_fill)) {B : Base} {h : Heap} (list_ : Sl Symbol) (O : Hold B h []) : Sim (denFn Try.prog env n_spec_l21Fill [Sl.enc list_] h) (t_spec_l21Fill list_) (fun c p => ∃ x1 : Nat, ∃ x2, p.1 = AV.ptr x1 1 0 0 ∧ Hold B p.2 ([(AV.ptr x1 1 0 0, .pt 2 [Sl.enc c.list, x2]), (x2, obS (c.cells : Sl Cell21))])) := by
  rw [e_spec_l21Fill]
  unfold t_spec_l21Fill
  refine sim_let (v := iv (((list_.getD []).length : Nat) : Int)) (Tab.enc h list_).len ?_
  refine sim_shl (fun q1 => ?_)
  refine sim_make (A := Cell21) O (⟨⟨0, 0, 0, 0⟩, 0, 0, 0, 0, 0, 0⟩ : Cell21) rfl (by decide) (fun l6 x2 h3 O4 => ?_)
  replace O4 : Hold B h3 [(x2, obS ((some l6) : Sl Cell21))] := O4
  refine sim_let (v := AV.agg [Sl.enc list_, x2]) (by first | rfl | simp [aBuild, aFill, splice, (O4.one (A := Cell21) (s := (some l6)) 0 rfl).1, (O4.one (A := Cell21) (s := (some l6)) 0 rfl).2]) ?_
  refine sim_box O4 (cs := [Sl.enc list_, x2]) (by first | rfl | simp [(O4.one (A := Cell21) (s := (some l6)) 0 rfl).1, (O4.one (A := Cell21) (s := (some l6)) 0 rfl).2]) (fun o7 h8 O9 => ?_)
  replace O9 : Hold B h8 [(x2, obS ((some l6) : Sl Cell21)), (AV.ptr o7 1 0 0, .pt 2 [Sl.enc list_, x2])] := O9
  refine sim_bind ((tl0_spec_l21Fill env he_spec_l21Chart_fill list_ q1 x2 o7) ⟨_, rfl, O9⟩) (fun qq37 r hq => ?_)
  obtain ⟨q20, q21⟩ := qq37
  obtain ⟨q22, z19, h17, rfl, O18⟩ := hq
  rw [e_lk0x0_spec_l21Fill]
  have O23 : Hold B h17 [(AV.ptr o7 1 0 0, .pt 2 [Sl.enc q21, z19]), (z19, obS (q20 : Sl Cell21))] := O18.sel [1, 0] (by decide) rfl
  exact sim_ret ⟨_, _, rfl, O23⟩
noncomputable def ev_spec_l21Fill : Nat → Contract := envL [(n_spec_l21Chart_fill, .gen (denFn Try.prog ev_spec_l21Chart_fill n_spec_l21Chart_fill))]
theorem eo_spec_l21Fill : EnvOK Try.prog ev_spec_l21Fill := (EconsG (gen_of_den eo_spec_l21Chart_fill mixed hb_spec_l21Chart_fill) E0)
theorem tg_spec_l21Fill {B : Base} {h : Heap} (list_ : Sl Symbol) (O : Hold B h []) : Sim (denFn Try.prog ev_spec_l21Fill n_spec_l21Fill [Sl.enc list_] h) (t_spec_l21Fill list_) (fun c p => ∃ x1 : Nat, ∃ x2, p.1 = AV.ptr x1 1 0 0 ∧ Hold B p.2 ([(AV.ptr x1 1 0 0, .pt 2 [Sl.enc c.list, x2]), (x2, obS (c.cells : Sl Cell21))])) := ts_spec_l21Fill ev_spec_l21Fill (by simp [ev_spec_l21Fill, envL]) list_  O

def t_spec_CountTrees (list_ : Sl Symbol) : Option (Int × Int) :=
  obind (t_spec_l20Ok list_) fun c1 =>
  bif !c1 then
    some (0, 1)
  else
    obind (t_spec_l21Fill list_) fun c4 =>
    obind (getI (c4.cells.getD []) (wr ((((c4.cells.getD []).length : Nat) : Int) - 1))) fun a14 =>
    some (a14.ways, 0)

theorem ts_spec_CountTrees (env : Nat → Contract) (he_spec_l20Ok : env n_spec_l20Ok = .pure (C1 (fun c : Bool => enc c) t_spec_l20Ok)) (he_spec_l21Fill : env n_spec_l21Fill = .gen (denFn Try.prog ev_spec_l21Fill n_spec_l21Fill)) (list_ : Sl Symbol) : Sim (denFn Try.prog env n_spec_CountTrees [Sl.enc list_] []) (t_spec_CountTrees list_) fun c p => release p.2 depth p.1 = some ((fun c : Int × Int => AV.tup [enc c.1, enc c.2]) c) := by
  have O := Hold.nil []
  generalize hB : (⟨[], []⟩ : Base) = B at O
  clear hB
  rw [e_spec_CountTrees]
  unfold t_spec_CountTrees
  refine sim_call1 he_spec_l20Ok (snapD_enc _ _) (fun c1 => ?_)
  refine sim_let2 (hand_plain (by rfl) _ _) ?_
  refine sim_let (v := bv (!c1)) (aUn_not _) ?_
  refine sim_cond (fun c2 => ?_) (fun c2 => ?_)
  · exact sim_ret (release_plain (by rfl) _)
  · have O3 := O
    refine sim_gen he_spec_l21Fill (tg_spec_l21Fill list_ (Hold.startL (L := []) (R := []) O3)) (fun c4 v5 h6 hq7 => ?_)
    obtain ⟨o10, x12, e_v5, O8⟩ := hq7
    dsimp only at e_v5
    subst v5
    have O9 : Hold B h6 [(AV.ptr o10 1 0 0, .pt 2 [Sl.enc c4.list, x12]), (x12, obS (c4.cells : Sl Cell21))] := Hold.mergeL (L := []) (R := []) O3 O8
    refine sim_let (v := AV.ptr o10 1 0 0) rfl ?_
    refine sim_let (v := AV.ptr o10 1 0 1) rfl ?_
    refine sim_let (v := x12) (O9.ld 0 rfl false 1 1) ?_
    refine sim_let (v := AV.ptr o10 1 0 0) rfl ?_
    refine sim_let (v := AV.ptr o10 1 0 1) rfl ?_
    refine sim_let (v := x12) (O9.ld 0 rfl false 1 1) ?_
    refine sim_let (v := iv (((c4.cells.getD []).length : Nat) : Int)) (O9.tab (A := Cell21) (s := c4.cells) 1 rfl).len ?_
    refine sim_let (v := iv (wr ((((c4.cells.getD []).length : Nat) : Int) - 1))) (aBin_sub _ _) ?_
    refine sim_get (O9.tab (A := Cell21) (s := c4.cells) 1 rfl) (fun m15 a14 hi16 hm17 => ?_)
    refine sim_let (v := elp x12 m15 4) ((O9.tab (A := Cell21) (s := c4.cells) 1 rfl).fld _ _ _) ?_
    refine sim_let (v := iv a14.ways) ((O9.tab (A := Cell21) (s := c4.cells) 1 rfl).ld hm17 false 1 4) ?_
    exact sim_ret (release_plain (by rfl) _)
theorem tt_spec_CountTrees : PureOK Try.prog n_spec_CountTrees (C1 (fun c : Int × Int => AV.tup [enc c.1, enc c.2]) t_spec_CountTrees) := pureC1 (Econs tt_spec_l20Ok (EconsG (gen_of_den eo_spec_l21Fill mixed hb_spec_l21Fill) E0)) mixed hb_spec_CountTrees fun list_ => ts_spec_CountTrees _ (by simp [envL]) (by simp [envL]) list_

def s0_impl_boxOfSet (list_ : Sl Symbol) (set_ : Int) : (Int × Int × Int × Int × Bool × Int) → Option (Sum (Int × Int × Int × Int × Bool × Int) (Int × Int × Int × Int)) := fun (w9, w10, w11, w12, w15, w16) =>
  bif decide (w16 < (((list_.getD []).length : Nat) : Int)) then
    obind (getI (list_.getD []) w16) fun a29 =>
    obind (shrO set_ w16) fun q39 =>
    bif decide (andI q39 1 = 0) then
      some (.inl (w9, w10, w11, w12, w15, wr (w16 + 1)))
    else
      bif w15 then
        obind (some (joinBox (⟨w9, w10, w11, w12⟩ : Box) a29.box)) fun c43 =>
        some (.inl (c43.x1, c43.y1, c43.x2, c43.y2, w15, wr (w16 + 1)))
      else
        some (.inl (a29.box.x1, a29.box.y1, a29.box.x2, a29.box.y2, true, wr (w16 + 1)))
  else
    some (.inr (w9, w10, w11, w12))
def t_impl_boxOfSet (list_ : Sl Symbol) (set_ : Int) : Option Box :=
  obind (loopT (s0_impl_boxOfSet list_ set_) (0, 0, 0, 0, false, 0)) fun (q19, q20, q21, q22) =>
  some (⟨q19, q20, q21, q22⟩ : Box)

theorem tl0_impl_boxOfSet (env : Nat → Contract) {B : Base} (he_impl_joinBoxes : env n_impl_joinBoxes = .pure (T2 joinBox)) (list_ : Sl Symbol) (set_ : Int) (o1 : Nat) (o5 : Nat)  {st : Int × Int × Int × Int × Bool × Int} {tm : TM} {h : Heap} (R : (fun (st : Int × Int × Int × Int × Bool × Int) tm h13 => match st with | (w9, w10, w11, w12, w15, w16) => tm = [Sl.enc list_, iv set_, und, und, AV.ptr o1 1 0 0, AV.ptr o5 1 0 0, bv w15, AV.top, AV.top, Sl.enc list_, iv (((list_.getD []).length : Nat) : Int), iv w16, AV.top, AV.top, AV.top, AV.top, AV.top, AV.top, AV.top, AV.top, AV.top, AV.top, AV.top, AV.top, AV.top, AV.top, AV.top, AV.top, AV.top, und] ∧ Hold B h13 [(AV.ptr o1 1 0 0, .pt 4 [iv 0, iv 0, iv 0, iv 0]), (AV.ptr o5 1 0 0, .pt 4 [iv w9, iv w10, iv w11, iv w12])]) st tm h) : Sim (loopP hm0_impl_boxOfSet xm0_impl_boxOfSet (lb0_impl_boxOfSet env) tm h) (loopT (s0_impl_boxOfSet list_ set_) st) (fun (q : Int × Int × Int × Int) (r : Res) => match q with | (q19, q20, q21, q22) => ∃ (q23 : Bool) (z24 : AV) (z25 : AV) (h17 : Heap), r = (.exit 0, [Sl.enc list_, iv set_, und, und, AV.ptr o1 1 0 0, AV.ptr o5 1 0 0, bv q23, z24, z25, Sl.enc list_, iv (((list_.getD []).length : Nat) : Int), AV.top, AV.top, AV.top, AV.top, AV.top, AV.top, AV.top, AV.top, AV.top, AV.top, AV.top, AV.top, AV.top, AV.top, AV.top, AV.top, AV.top, AV.top, und], h17) ∧ Hold B h17 [(AV.ptr o1 1 0 0, .pt 4 [iv 0, iv 0, iv 0, iv 0]), (AV.ptr o5 1 0 0, .pt 4 [iv q19, iv q20, iv q21, iv q22])]) := by
  refine loop_sim (Rel := fun (st : Int × Int × Int × Int × Bool × Int) tm h13 => match st with | (w9, w10, w11, w12, w15, w16) => tm = [Sl.enc list_, iv set_, und, und, AV.ptr o1 1 0 0, AV.ptr o5 1 0 0, bv w15, AV.top, AV.top, Sl.enc list_, iv (((list_.getD []).length : Nat) : Int), iv w16, AV.top, AV.top, AV.top, AV.top, AV.top, AV.top, AV.top, AV.top, AV.top, AV.top, AV.top, AV.top, AV.top, AV.top, AV.top, AV.top, AV.top, und] ∧ Hold B h13 [(AV.ptr o1 1 0 0, .pt 4 [iv 0, iv 0, iv 0, iv 0]), (AV.ptr o5 1 0 0, .pt 4 [iv w9, iv w10, iv w11, iv w12])]) (fun st tm h13 R => ?_) R
  obtain ⟨w9, w10, w11, w12, w15, w16⟩ := st
  obtain ⟨rfl, O14⟩ := R
  rw [e_lb0_impl_boxOfSet]
  unfold s0_impl_boxOfSet
  dsimp only
  refine sim_let (v := bv (decide (w16 < (((list_.getD []).length : Nat) : Int)))) (aBin_lss _ _) ?_
  refine sim_cond (fun c28 => ?_) (fun c28 => ?_)
  · refine sim_get (Tab.enc h13 list_) (fun m30 a29 hi31 hm32 => ?_)
    refine sim_let (v := AV.agg [sv a29.label, iv a29.box.x1, iv a29.box.y1, iv a29.box.x2, iv a29.box.y2]) ((Tab.enc h13 list_).ld hm32 true 5 0) ?_
    refine sim_box O14 (cs := [sv (⟨#[]⟩ : ByteArray), iv 0, iv 0, iv 0, iv 0]) (by first | rfl | simp) (fun o33 h34 O35 => ?_)
    replace O35 : Hold B h34 [(AV.ptr o1 1 0 0, .pt 4 [iv 0, iv 0, iv 0, iv 0]), (AV.ptr o5 1 0 0, .pt 4 [iv w9, iv w10, iv w11, iv w12]), (AV.ptr o33 1 0 0, .pt 5 [sv (⟨#[]⟩ : ByteArray), iv 0, iv 0, iv 0, iv 0])] := O35
    refine sim_store O35 2 (cs' := [sv a29.label, iv a29.box.x1, iv a29.box.y1, iv a29.box.x2, iv a29.box.y2]) rfl (by first | rfl | simp) (by simp) (by first | rfl | simp) (by first | rfl | simp [splice]) (fun h37 O38 => ?_)
    replace O38 : Hold B h37 [(AV.ptr o1 1 0 0, .pt 4 [iv 0, iv 0, iv 0, iv 0]), (AV.ptr o5 1 0 0, .pt 4 [iv w9, iv w10, iv w11, iv w12]), (AV.ptr o33 1 0 0, .pt 5 [sv a29.label, iv a29.box.x1, iv a29.box.y1, iv a29.box.x2, iv a29.box.y2])] := O38
    refine sim_shr (fun q39 => ?_)
    refine sim_let (v := iv (andI q39 1)) (aBin_and _ _) ?_
    refine sim_let (v := bv (decide (andI q39 1 = 0))) (aCmp_eq _ _) ?_
    refine sim_cond (fun c40 => ?_) (fun c40 => ?_)
    · refine sim_let (v := iv (wr (w16 + 1))) (aBin_add _ _) ?_
      have O41 : Hold B h37 [(AV.ptr o1 1 0 0, .pt 4 [iv 0, iv 0, iv 0, iv 0]), (AV.ptr o5 1 0 0, .pt 4 [iv w9, iv w10, iv w11, iv w12])] := O38.sel [0, 1] (by decide) rfl
      exact sim_ret ⟨rfl, rfl, O41⟩
    · refine sim_cond (fun c42 => ?_) (fun c42 => ?_)
      · refine sim_let (v := AV.agg [iv w9, iv w10, iv w11, iv w12]) (O38.ld 1 rfl true 4 0) ?_
        refine sim_let (v := AV.ptr o33 1 0 1) rfl ?_
        refine sim_let (v := AV.agg [iv a29.box.x1, iv a29.box.y1, iv a29.box.x2, iv a29.box.y2]) (O38.ld 2 rfl true 4 1) ?_
        refine sim_callV2 (t := joinBox) he_impl_joinBoxes (snapD_nr _ (⟨w9, w10, w11, w12⟩ : Box) rfl) (snapD_nr _ a29.box rfl) (fun c43 => ?_)
        refine sim_store O38 1 (cs' := [iv c43.x1, iv c43.y1, iv c43.x2, iv c43.y2]) rfl (by first | rfl | simp) (by simp) (by first | rfl | simp) (by first | rfl | simp [splice]) (fun h44 O45 => ?_)
        replace O45 : Hold B h44 [(AV.ptr o1 1 0 0, .pt 4 [iv 0, iv 0, iv 0, iv 0]), (AV.ptr o5 1 0 0, .pt 4 [iv c43.x1, iv c43.y1, iv c43.x2, iv c43.y2]), (AV.ptr o33 1 0 0, .pt 5 [sv a29.label, iv a29.box.x1, iv a29.box.y1, iv a29.box.x2, iv a29.box.y2])] := O45
        refine sim_let (v := iv (wr (w16 + 1))) (aBin_add _ _) ?_
        have O46 : Hold B h44 [(AV.ptr o1 1 0 0, .pt 4 [iv 0, iv 0, iv 0, iv 0]), (AV.ptr o5 1 0 0, .pt 4 [iv c43.x1, iv c43.y1, iv c43.x2, iv c43.y2])] := O45.sel [0, 1] (by decide) rfl
        exact sim_ret ⟨rfl, rfl, O46⟩
      · refine sim_let (v := AV.ptr o33 1 0 1) rfl ?_
        refine sim_let (v := AV.agg [iv a29.box.x1, iv a29.box.y1, iv a29.box.x2, iv a29.box.y2]) (O38.ld 2 rfl true 4 1) ?_
        refine sim_store O38 1 (cs' := [iv a29.box.x1, iv a29.box.y1, iv a29.box.x2, iv a29.box.y2]) rfl (by first | rfl | simp) (by simp) (by first | rfl | simp) (by first | rfl | simp [splice]) (fun h47 O48 => ?_)
        replace O48 : Hold B h47 [(AV.ptr o1 1 0 0, .pt 4 [iv 0, iv 0, iv 0, iv 0]), (AV.ptr o5 1 0 0, .pt 4 [iv a29.box.x1, iv a29.box.y1, iv a29.box.x2, iv a29.box.y2]), (AV.ptr o33 1 0 0, .pt 5 [sv a29.label, iv a29.box.x1, iv a29.box.y1, iv a29.box.x2, iv a29.box.y2])] := O48
        refine sim_let (v := iv (wr (w16 + 1))) (aBin_add _ _) ?_
        have O49 : Hold B h47 [(AV.ptr o1 1 0 0, .pt 4 [iv 0, iv 0, iv 0, iv 0]), (AV.ptr o5 1 0 0, .pt 4 [iv a29.box.x1, iv a29.box.y1, iv a29.box.x2, iv a29.box.y2])] := O48.sel [0, 1] (by decide) rfl
        exact sim_ret ⟨rfl, rfl, O49⟩
  · exact sim_ret ⟨nofun, _, _, _, _, rfl, O14⟩
theorem ts_impl_boxOfSet (env : Nat → Contract) (he_impl_joinBoxes : env n_impl_joinBoxes = .pure (T2 joinBox)) (list_ : Sl Symbol) (set_ : Int) : Sim (denFn Try.prog env n_impl_boxOfSet [Sl.enc list_, iv set_] []) (t_impl_boxOfSet list_ set_) fun c p => release p.2 depth p.1 = some ((fun c : Box => enc c) c) := by
  have O := Hold.nil []
  generalize hB : (⟨[], []⟩ : Base) = B at O
  clear hB
  rw [e_impl_boxOfSet]
  unfold t_impl_boxOfSet
  refine sim_box O (cs := [iv 0, iv 0, iv 0, iv 0]) (by first | rfl | simp) (fun o1 h2 O3 => ?_)
  replace O3 : Hold B h2 [(AV.ptr o1 1 0 0, .pt 4 [iv 0, iv 0, iv 0, iv 0])] := O3
  refine sim_box O3 (cs := [iv 0, iv 0, iv 0, iv 0]) (by first | rfl | simp) (fun o5 h6 O7 => ?_)
  replace O7 : Hold B h6 [(AV.ptr o1 1 0 0, .pt 4 [iv 0, iv 0, iv 0, iv 0]), (AV.ptr o5 1 0 0, .pt 4 [iv 0, iv 0, iv 0, iv 0])] := O7
  refine sim_let (v := iv (((list_.getD []).length : Nat) : Int)) (Tab.enc h6 list_).len ?_
  refine sim_bind ((tl0_impl_boxOfSet env he_impl_joinBoxes list_ set_ o1 o5) ⟨rfl, O7⟩) (fun qq52 r hq => ?_)
  obtain ⟨q19, q20, q21, q22⟩ := qq52
  obtain ⟨q23, z24, z25, h17, rfl, O18⟩ := hq
  rw [e_lk0x0_impl_boxOfSet]
  refine sim_let (v := AV.agg [iv q19, iv q20, iv q21, iv q22]) (O18.ld 1 rfl true 4 0) ?_
  refine sim_store O18 0 (cs' := [iv q19, iv q20, iv q21, iv q22]) rfl (by first | rfl | simp) (by simp) (by first | rfl | simp) (by first | rfl | simp [splice]) (fun h26 O27 => ?_)
  replace O27 : Hold B h26 [(AV.ptr o1 1 0 0, .pt 4 [iv q19, iv q20, iv q21, iv q22]), (AV.ptr o5 1 0 0, .pt 4 [iv q19, iv q20, iv q21, iv q22])] := O27
  refine sim_retL (resL_c (v := AV.agg [iv q19, iv q20, iv q21, iv q22]) (O27.ld 0 rfl true 4 0) (resL_nil _)) ?_
  dsimp only [pack]
  exact sim_ret (release_plain (by rfl) _)
theorem tt_impl_boxOfSet : PureOK Try.prog n_impl_boxOfSet (C2 (fun c : Box => enc c) t_impl_boxOfSet) := pureC2 (Econs ok_impl_joinBoxes E0) mixed hb_impl_boxOfSet fun list_ set_ => ts_impl_boxOfSet _ (by simp [envL]) list_ set_

def t_impl_joinCost (kind_ : Int) (a_ : Box) (b_ : Box) (s_ : Box) : Option (Int × Bool) :=
  bif decide (kind_ = 1) then
    obind (some (absI (wr ((wr ((wr (a_.y1 + a_.y2)) - b_.y1)) - b_.y2)))) fun c14 =>
    obind (some (relation a_ b_)) fun c15 =>
    some (wr (c14 + (max (wr (b_.x1 - a_.x2)) 0)), decide (c15 = 1))
  else
    bif decide (kind_ = 2) then
      obind (some (absI (wr ((wr ((wr (a_.x1 + a_.x2)) - s_.x1)) - s_.x2)))) fun c17 =>
      obind (some (absI (wr ((wr ((wr (b_.x1 + b_.x2)) - s_.x1)) - s_.x2)))) fun c18 =>
      obind (some (relation s_ a_)) fun c19 =>
      obind (bif decide (c19 = 2) then (obind (some (relation s_ b_)) fun c21 => some (decide (c21 = 3))) else some false) fun c22 =>
      some (wr (c17 + c18), (bif decide (c19 = 2) then c22 else false))
    else
      bif decide (kind_ = 3) then
        obind (some (absI (wr (b_.x1 - a_.x2)))) fun c27 =>
        obind (some (absI (wr (b_.y2 - a_.y1)))) fun c28 =>
        obind (some (relation a_ b_)) fun c29 =>
        some (wr ((wr (c27 + c28)) + 20), decide (c29 = 4))
      else
        bif decide (kind_ = 4) then
          obind (some (absI (wr (b_.x1 - a_.x2)))) fun c31 =>
          obind (some (absI (wr (b_.y1 - a_.y2)))) fun c32 =>
          obind (some (relation a_ b_)) fun c33 =>
          some (wr ((wr (c31 + c32)) + 20), decide (c33 = 5))
        else
          bif decide (kind_ = 5) then
            obind (some (relation s_ a_)) fun c35 =>
            some (0, decide (c35 = 6))
          else
            some (0, false)

theorem ts_impl_joinCost (env : Nat → Contract) (he_impl_abs : env n_impl_abs = .pure (T1 absI)) (he_impl_relation : env n_impl_relation = .pure (T2 relation)) (kind_ : Int) (a_ : Box) (b_ : Box) (s_ : Box) : Sim (denFn Try.prog env n_impl_joinCost [iv kind_, AV.agg [iv a_.x1, iv a_.y1, iv a_.x2, iv a_.y2], AV.agg [iv b_.x1, iv b_.y1, iv b_.x2, iv b_.y2], AV.agg [iv s_.x1, iv s_.y1, iv s_.x2, iv s_.y2]] []) (t_impl_joinCost kind_ a_ b_ s_) fun c p => release p.2 depth p.1 = some ((fun c : Int × Bool => AV.tup [enc c.1, enc c.2]) c) := by
  have O := Hold.nil []
  generalize hB : (⟨[], []⟩ : Base) = B at O
  clear hB
  rw [e_impl_joinCost]
  unfold t_impl_joinCost
  refine sim_box O (cs := [iv a_.x1, iv a_.y1, iv a_.x2, iv a_.y2]) (by first | rfl | simp) (fun o1 h2 O3 => ?_)
  replace O3 : Hold B h2 [(AV.ptr o1 1 0 0, .pt 4 [iv a_.x1, iv a_.y1, iv a_.x2, iv a_.y2])] := O3
  refine sim_box O3 (cs := [iv b_.x1, iv b_.y1, iv b_.x2, iv b_.y2]) (by first | rfl | simp) (fun o5 h6 O7 => ?_)
  replace O7 : Hold B h6 [(AV.ptr o1 1 0 0, .pt 4 [iv a_.x1, iv a_.y1, iv a_.x2, iv a_.y2]), (AV.ptr o5 1 0 0, .pt 4 [iv b_.x1, iv b_.y1, iv b_.x2, iv b_.y2])] := O7
  refine sim_box O7 (cs := [iv s_.x1, iv s_.y1, iv s_.x2, iv s_.y2]) (by first | rfl | simp) (fun o9 h10 O11 => ?_)
  replace O11 : Hold B h10 [(AV.ptr o1 1 0 0, .pt 4 [iv a_.x1, iv a_.y1, iv a_.x2, iv a_.y2]), (AV.ptr o5 1 0 0, .pt 4 [iv b_.x1, iv b_.y1, iv b_.x2, iv b_.y2]), (AV.ptr o9 1 0 0, .pt 4 [iv s_.x1, iv s_.y1, iv s_.x2, iv s_.y2])] := O11
  refine sim_let (v := bv (decide (kind_ = 1))) (aCmp_eq _ _) ?_
  refine sim_cond (fun c13 => ?_) (fun c13 => ?_)
  · refine sim_let (v := AV.ptr o1 1 0 1) rfl ?_
    refine sim_let (v := iv a_.y1) (O11.ld 0 rfl false 1 1) ?_
    refine sim_let (v := AV.ptr o1 1 0 3) rfl ?_
    refine sim_let (v := iv a_.y2) (O11.ld 0 rfl false 1 3) ?_
    refine sim_let (v := iv (wr (a_.y1 + a_.y2))) (aBin_add _ _) ?_
    refine sim_let (v := AV.ptr o5 1 0 1) rfl ?_
    refine sim_let (v := iv b_.y1) (O11.ld 1 rfl false 1 1) ?_
    refine sim_let (v := iv (wr ((wr (a_.y1 + a_.y2)) - b_.y1))) (aBin_sub _ _) ?_
    refine sim_let (v := AV.ptr o5 1 0 3) rfl ?_
    refine sim_let (v := iv b_.y2) (O11.ld 1 rfl false 1 3) ?_
    refine sim_let (v := iv (wr ((wr ((wr (a_.y1 + a_.y2)) - b_.y1)) - b_.y2))) (aBin_sub _ _) ?_
    refine sim_callVQ1 (t := absI) he_impl_abs (snapD_int _ _) (fun c14 => ?_)
    refine sim_let (v := AV.ptr o5 1 0 0) rfl ?_
    refine sim_let (v := iv b_.x1) (O11.ld 1 rfl false 1 0) ?_
    refine sim_let (v := AV.ptr o1 1 0 2) rfl ?_
    refine sim_let (v := iv a_.x2) (O11.ld 0 rfl false 1 2) ?_
    refine sim_let (v := iv (wr (b_.x1 - a_.x2))) (aBin_sub _ _) ?_
    refine sim_let (v := iv (max (wr (b_.x1 - a_.x2)) 0)) (aFold_max _ _) ?_
    refine sim_let (v := iv (wr (c14 + (max (wr (b_.x1 - a_.x2)) 0)))) (aBin_add _ _) ?_
    refine sim_let (v := AV.agg [iv a_.x1, iv a_.y1, iv a_.x2, iv a_.y2]) (O11.ld 0 rfl true 4 0) ?_
    refine sim_let (v := AV.agg [iv b_.x1, iv b_.y1, iv b_.x2, iv b_.y2]) (O11.ld 1 rfl true 4 0) ?_
    refine sim_callVQ2 (t := relation) he_impl_relation (snapD_nr _ a_ rfl) (snapD_nr _ b_ rfl) (fun c15 => ?_)
    refine sim_let (v := bv (decide (c15 = 1))) (aCmp_eq _ _) ?_
    exact sim_ret (release_plain (by rfl) _)
  · refine sim_let (v := bv (decide (kind_ = 2))) (aCmp_eq _ _) ?_
    refine sim_cond (fun c16 => ?_) (fun c16 => ?_)
    · refine sim_let (v := AV.ptr o1 1 0 0) rfl ?_
      refine sim_let (v := iv a_.x1) (O11.ld 0 rfl false 1 0) ?_
      refine sim_let (v := AV.ptr o1 1 0 2) rfl ?_
      refine sim_let (v := iv a_.x2) (O11.ld 0 rfl false 1 2) ?_
      refine sim_let (v := iv (wr (a_.x1 + a_.x2))) (aBin_add _ _) ?_
      refine sim_let (v := AV.ptr o9 1 0 0) rfl ?_
      refine sim_let (v := iv s_.x1) (O11.ld 2 rfl false 1 0) ?_
      refine sim_let (v := iv (wr ((wr (a_.x1 + a_.x2)) - s_.x1))) (aBin_sub _ _) ?_
      refine sim_let (v := AV.ptr o9 1 0 2) rfl ?_
      refine sim_let (v := iv s_.x2) (O11.ld 2 rfl false 1 2) ?_
      refine sim_let (v := iv (wr ((wr ((wr (a_.x1 + a_.x2)) - s_.x1)) - s_.x2))) (aBin_sub _ _) ?_
      refine sim_callVQ1 (t := absI) he_impl_abs (snapD_int _ _) (fun c17 => ?_)
      refine sim_let (v := AV.ptr o5 1 0 0) rfl ?_
      refine sim_let (v := iv b_.x1) (O11.ld 1 rfl false 1 0) ?_
      refine sim_let (v := AV.ptr o5 1 0 2) rfl ?_
      refine sim_let (v := iv b_.x2) (O11.ld 1 rfl false 1 2) ?_
      refine sim_let (v := iv (wr (b_.x1 + b_.x2))) (aBin_add _ _) ?_
      refine sim_let (v := AV.ptr o9 1 0 0) rfl ?_
      refine sim_let (v := iv s_.x1) (O11.ld 2 rfl false 1 0) ?_
      refine sim_let (v := iv (wr ((wr (b_.x1 + b_.x2)) - s_.x1))) (aBin_sub _ _) ?_
      refine sim_let (v := AV.ptr o9 1 0 2) rfl ?_
      refine sim_let (v := iv s_.x2) (O11.ld 2 rfl false 1 2) ?_
      refine sim_let (v := iv (wr ((wr ((wr (b_.x1 + b_.x2)) - s_.x1)) - s_.x2))) (aBin_sub _ _) ?_
      refine sim_callVQ1 (t := absI) he_impl_abs (snapD_int _ _) (fun c18 => ?_)
      refine sim_let (v := iv (wr (c17 + c18))) (aBin_add _ _) ?_
      refine sim_let (v := AV.agg [iv s_.x1, iv s_.y1, iv s_.x2, iv s_.y2]) (O11.ld 2 rfl true 4 0) ?_
      refine sim_let (v := AV.agg [iv a_.x1, iv a_.y1, iv a_.x2, iv a_.y2]) (O11.ld 0 rfl true 4 0) ?_
      refine sim_callVQ2 (t := relation) he_impl_relation (snapD_nr _ s_ rfl) (snapD_nr _ a_ rfl) (fun c19 => ?_)
      refine sim_let (v := bv (decide (c19 = 2))) (aCmp_eq _ _) ?_
      refine sim_g4T (e := bv) (fun hb20 => ?_) (fun y23 y24 y25 c22 => ?_)
      · refine sim_o1 ?_
        refine sim_let (v := AV.agg [iv s_.x1, iv s_.y1, iv s_.x2, iv s_.y2]) (O11.ld 2 rfl true 4 0) ?_
        refine sim_o0 ?_
        refine sim_o1 ?_
        refine sim_let (v := AV.agg [iv b_.x1, iv b_.y1, iv b_.x2, iv b_.y2]) (O11.ld 1 rfl true 4 0) ?_
        refine sim_o0 ?_
        refine sim_o2 ?_
        refine sim_callVQ2 (t := relation) he_impl_relation (snapD_nr _ s_ rfl) (snapD_nr _ b_ rfl) (fun c21 => ?_)
        refine sim_o0 ?_
        refine sim_let (v := bv (decide (c21 = 3))) (aCmp_eq _ _) ?_
        exact sim_ret rfl
      · refine sim_let (v := bv (bif decide (c19 = 2) then c22 else false)) (pick_b _ _ _) ?_
        exact sim_ret (release_plain (by rfl) _)
    · refine sim_let (v := bv (decide (kind_ = 3))) (aCmp_eq _ _) ?_
      refine sim_cond (fun c26 => ?_) (fun c26 => ?_)
      · refine sim_let (v := AV.ptr o5 1 0 0) rfl ?_
        refine sim_let (v := iv b_.x1) (O11.ld 1 rfl false 1 0) ?_
        refine sim_let (v := AV.ptr o1 1 0 2) rfl ?_
        refine sim_let (v := iv a_.x2) (O11.ld 0 rfl false 1 2) ?_
        refine sim_let (v := iv (wr (b_.x1 - a_.x2))) (aBin_sub _ _) ?_
        refine sim_callVQ1 (t := absI) he_impl_abs (snapD_int _ _) (fun c27 => ?_)
        refine sim_let (v := AV.ptr o5 1 0 3) rfl ?_
        refine sim_let (v := iv b_.y2) (O11.ld 1 rfl false 1 3) ?_
        refine sim_let (v := AV.ptr o1 1 0 1) rfl ?_
        refine sim_let (v := iv a_.y1) (O11.ld 0 rfl false 1 1) ?_
        refine sim_let (v := iv (wr (b_.y2 - a_.y1))) (aBin_sub _ _) ?_
        refine sim_callVQ1 (t := absI) he_impl_abs (snapD_int _ _) (fun c28 => ?_)
        refine sim_let (v := iv (wr (c27 + c28))) (aBin_add _ _) ?_
        refine sim_let (v := iv (wr ((wr (c27 + c28)) + 20))) (aBin_add _ _) ?_
        refine sim_let (v := AV.agg [iv a_.x1, iv a_.y1, iv a_.x2, iv a_.y2]) (O11.ld 0 rfl true 4 0) ?_
        refine sim_let (v := AV.agg [iv b_.x1, iv b_.y1, iv b_.x2, iv b_.y2]) (O11.ld 1 rfl true 4 0) ?_
        refine sim_callVQ2 (t := relation) he_impl_relation (snapD_nr _ a_ rfl) (snapD_nr _ b_ rfl) (fun c29 => ?_)
        refine sim_let (v := bv (decide (c29 = 4))) (aCmp_eq _ _) ?_
        exact sim_ret (release_plain (by rfl) _)
      · refine sim_let (v := bv (decide (kind_ = 4))) (aCmp_eq _ _) ?_
        refine sim_cond (fun c30 => ?_) (fun c30 => ?_)
        · refine sim_let (v := AV.ptr o5 1 0 0) rfl ?_
          refine sim_let (v := iv b_.x1) (O11.ld 1 rfl false 1 0) ?_
          refine sim_let (v := AV.ptr o1 1 0 2) rfl ?_
          refine sim_let (v := iv a_.x2) (O11.ld 0 rfl false 1 2) ?_
          refine sim_let (v := iv (wr (b_.x1 - a_.x2))) (aBin_sub _ _) ?_
          refine sim_callVQ1 (t := absI) he_impl_abs (snapD_int _ _) (fun c31 => ?_)
          refine sim_let (v := AV.ptr o5 1 0 1) rfl ?_
          refine sim_let (v := iv b_.y1) (O11.ld 1 rfl false 1 1) ?_
          refine sim_let (v := AV.ptr o1 1 0 3) rfl ?_
          refine sim_let (v := iv a_.y2) (O11.ld 0 rfl false 1 3) ?_
          refine sim_let (v := iv (wr (b_.y1 - a_.y2))) (aBin_sub _ _) ?_
          refine sim_callVQ1 (t := absI) he_impl_abs (snapD_int _ _) (fun c32 => ?_)
          refine sim_let (v := iv (wr (c31 + c32))) (aBin_add _ _) ?_
          refine sim_let (v := iv (wr ((wr (c31 + c32)) + 20))) (aBin_add _ _) ?_
          refine sim_let (v := AV.agg [iv a_.x1, iv a_.y1, iv a_.x2, iv a_.y2]) (O11.ld 0 rfl true 4 0) ?_
          refine sim_let (v := AV.agg [iv b_.x1, iv b_.y1, iv b_.x2, iv b_.y2]) (O11.ld 1 rfl true 4 0) ?_
          refine sim_callVQ2 (t := relation) he_impl_relation (snapD_nr _ a_ rfl) (snapD_nr _ b_ rfl) (fun c33 => ?_)
          refine sim_let (v := bv (decide (c33 = 5))) (aCmp_eq _ _) ?_
          exact sim_ret (release_plain (by rfl) _)
        · refine sim_let (v := bv (decide (kind_ = 5))) (aCmp_eq _ _) ?_
          refine sim_cond (fun c34 => ?_) (fun c34 => ?_)
          · refine sim_let (v := AV.agg [iv s_.x1, iv s_.y1, iv s_.x2, iv s_.y2]) (O11.ld 2 rfl true 4 0) ?_
            refine sim_let (v := AV.agg [iv a_.x1, iv a_.y1, iv a_.x2, iv a_.y2]) (O11.ld 0 rfl true 4 0) ?_
            refine sim_callV2 (t := relation) he_impl_relation (snapD_nr _ s_ rfl) (snapD_nr _ a_ rfl) (fun c35 => ?_)
            refine sim_let (v := bv (decide (c35 = 6))) (aCmp_eq _ _) ?_
            exact sim_ret (release_plain (by rfl) _)
          · exact sim_ret (release_plain (by rfl) _)
theorem tt_impl_joinCost : PureOK Try.prog n_impl_joinCost (C4 (fun c : Int × Bool => AV.tup [enc c.1, enc c.2]) t_impl_joinCost) := pureC4 (Econs ok_impl_abs (Econs ok_impl_relation E0)) mixed hb_impl_joinCost fun kind_ a_ b_ s_ => ts_impl_joinCost _ (by simp [envL]) (by simp [envL]) kind_ a_ b_ s_

def t_cmp_isNaN_int (x_ : Int) : Option Bool :=
  some (!decide (x_ = x_))

theorem ts_cmp_isNaN_int (env : Nat → Contract)  (x_ : Int) : Sim (denFn Try.prog env n_cmp_isNaN_int [iv x_] []) (t_cmp_isNaN_int x_) fun c p => release p.2 depth p.1 = some ((fun c : Bool => enc c) c) := by
  have O := Hold.nil []
  generalize hB : (⟨[], []⟩ : Base) = B at O
  clear hB
  rw [e_cmp_isNaN_int]
  unfold t_cmp_isNaN_int
  refine sim_let (v := bv (!decide (x_ = x_))) (aCmp_ne _ _) ?_
  exact sim_ret (release_plain (by rfl) _)
theorem tt_cmp_isNaN_int : PureOK Try.prog n_cmp_isNaN_int (C1 (fun c : Bool => enc c) t_cmp_isNaN_int) := pureC1 E0 mixed hb_cmp_isNaN_int fun x_ => ts_cmp_isNaN_int _  x_

def t_cmp_Compare_int (x_ : Int) (y_ : Int) : Option Int :=
  obind (t_cmp_isNaN_int x_) fun c1 =>
  obind (t_cmp_isNaN_int y_) fun c2 =>
  bif c1 then
    bif c2 then
      some 0
    else
      some (-1)
  else
    bif c2 then
      some 1
    else
      bif decide (x_ < y_) then
        some (-1)
      else
        bif decide (y_ < x_) then
          some 1
        else
          some 0

theorem ts_cmp_Compare_int (env : Nat → Contract) (he_cmp_isNaN_int : env n_cmp_isNaN_int = .pure (C1 (fun c : Bool => enc c) t_cmp_isNaN_int)) (x_ : Int) (y_ : Int) : Sim (denFn Try.prog env n_cmp_Compare_int [iv x_, iv y_] []) (t_cmp_Compare_int x_ y_) fun c p => release p.2 depth p.1 = some ((fun c : Int => enc c) c) := by
  have O := Hold.nil []
  generalize hB : (⟨[], []⟩ : Base) = B at O
  clear hB
  rw [e_cmp_Compare_int]
  unfold t_cmp_Compare_int
  refine sim_call1 he_cmp_isNaN_int (snapD_int _ _) (fun c1 => ?_)
  refine sim_let2 (hand_plain (by rfl) _ _) ?_
  refine sim_call1 he_cmp_isNaN_int (snapD_int _ _) (fun c2 => ?_)
  refine sim_let2 (hand_plain (by rfl) _ _) ?_
  refine sim_cond (fun c3 => ?_) (fun c3 => ?_)
  · refine sim_cond (fun c4 => ?_) (fun c4 => ?_)
    · exact sim_ret (release_plain (by rfl) _)
    · exact sim_ret (release_plain (by rfl) _)
  · refine sim_cond (fun c5 => ?_) (fun c5 => ?_)
    · exact sim_ret (release_plain (by rfl) _)
    · refine sim_let (v := bv (decide (x_ < y_))) (aBin_lss _ _) ?_
      refine sim_cond (fun c6 => ?_) (fun c6 => ?_)
      · exact sim_ret (release_plain (by rfl) _)
      · refine sim_let (v := bv (decide (y_ < x_))) (aBin_gtr _ _) ?_
        refine sim_cond (fun c7 => ?_) (fun c7 => ?_)
        · exact sim_ret (release_plain (by rfl) _)
        · exact sim_ret (release_plain (by rfl) _)
theorem tt_cmp_Compare_int : PureOK Try.prog n_cmp_Compare_int (C2 (fun c : Int => enc c) t_cmp_Compare_int) := pureC2 (Econs tt_cmp_isNaN_int E0) mixed hb_cmp_Compare_int fun x_ y_ => ts_cmp_Compare_int _ (by simp [envL]) x_ y_

def t_impl_compareChoices (x_ : Choice) (y_ : Choice) : Option Int :=
  obind (some (cmpI x_.cost y_.cost)) fun c9 =>
  obind (some (cmpI x_.kind y_.kind)) fun c10 =>
  obind (some (cmpI x_.sign y_.sign)) fun c11 =>
  obind (t_cmp_Compare_int x_.a y_.a) fun c12 =>
  obind (t_cmp_Or_int (some ([c9, c10, c11, c12] : List Int))) fun c17 =>
  some c17

theorem ts_impl_compareChoices (env : Nat → Contract) (he_cmp_Compare_int : env n_cmp_Compare_int = .pure (C2 (fun c : Int => enc c) t_cmp_Compare_int)) (he_cmp_Compare_int64 : env n_cmp_Compare_int64 = .pure (T2 cmpI)) (he_cmp_Or_int : env n_cmp_Or_int = .pure (C1 (fun c : Int => enc c) t_cmp_Or_int)) (x_ : Choice) (y_ : Choice) : Sim (denFn Try.prog env n_impl_compareChoices [AV.agg [iv x_.kind, iv x_.sign, iv x_.a, iv x_.b, iv x_.cost], AV.agg [iv y_.kind, iv y_.sign, iv y_.a, iv y_.b, iv y_.cost]] []) (t_impl_compareChoices x_ y_) fun c p => release p.2 depth p.1 = some ((fun c : Int => enc c) c) := by
  have O := Hold.nil []
  generalize hB : (⟨[], []⟩ : Base) = B at O
  clear hB
  rw [e_impl_compareChoices]
  unfold t_impl_compareChoices
  refine sim_box O (cs := [iv x_.kind, iv x_.sign, iv x_.a, iv x_.b, iv x_.cost]) (by first | rfl | simp) (fun o1 h2 O3 => ?_)
  replace O3 : Hold B h2 [(AV.ptr o1 1 0 0, .pt 5 [iv x_.kind, iv x_.sign, iv x_.a, iv x_.b, iv x_.cost])] := O3
  refine sim_box O3 (cs := [iv y_.kind, iv y_.sign, iv y_.a, iv y_.b, iv y_.cost]) (by first | rfl | simp) (fun o5 h6 O7 => ?_)
  replace O7 : Hold B h6 [(AV.ptr o1 1 0 0, .pt 5 [iv x_.kind, iv x_.sign, iv x_.a, iv x_.b, iv x_.cost]), (AV.ptr o5 1 0 0, .pt 5 [iv y_.kind, iv y_.sign, iv y_.a, iv y_.b, iv y_.cost])] := O7
  refine sim_let (v := AV.ptr o1 1 0 4) rfl ?_
  refine sim_let (v := iv x_.cost) (O7.ld 0 rfl false 1 4) ?_
  refine sim_let (v := AV.ptr o5 1 0 4) rfl ?_
  refine sim_let (v := iv y_.cost) (O7.ld 1 rfl false 1 4) ?_
  refine sim_callVQ2 (t := cmpI) he_cmp_Compare_int64 (snapD_int _ _) (snapD_int _ _) (fun c9 => ?_)
  refine sim_let (v := AV.ptr o1 1 0 0) rfl ?_
  refine sim_let (v := iv x_.kind) (O7.ld 0 rfl false 1 0) ?_
  refine sim_let (v := AV.ptr o5 1 0 0) rfl ?_
  refine sim_let (v := iv y_.kind) (O7.ld 1 rfl false 1 0) ?_
  refine sim_callVQ2 (t := cmpI) he_cmp_Compare_int64 (snapD_int _ _) (snapD_int _ _) (fun c10 => ?_)
  refine sim_let (v := AV.ptr o1 1 0 1) rfl ?_
  refine sim_let (v := iv x_.sign) (O7.ld 0 rfl false 1 1) ?_
  refine sim_let (v := AV.ptr o5 1 0 1) rfl ?_
  refine sim_let (v := iv y_.sign) (O7.ld 1 rfl false 1 1) ?_
  refine sim_callVQ2 (t := cmpI) he_cmp_Compare_int64 (snapD_int _ _) (snapD_int _ _) (fun c11 => ?_)
  refine sim_let (v := AV.ptr o1 1 0 2) rfl ?_
  refine sim_let (v := iv x_.a) (O7.ld 0 rfl false 1 2) ?_
  refine sim_let (v := AV.ptr o5 1 0 2) rfl ?_
  refine sim_let (v := iv y_.a) (O7.ld 1 rfl false 1 2) ?_
  refine sim_callQ2 he_cmp_Compare_int (snapD_int _ _) (snapD_int _ _) (fun c12 => ?_)
  refine sim_let2 (hand_plain (by rfl) _ _) ?_
  refine sim_build (A := Int) O7 ([c9, c10, c11, c12] : List Int) rfl (by first | rfl | simp [aFillRows, zrows]) rfl (fun x13 h14 O15 => ?_)
  replace O15 : Hold B h14 [(AV.ptr o1 1 0 0, .pt 5 [iv x_.kind, iv x_.sign, iv x_.a, iv x_.b, iv x_.cost]), (AV.ptr o5 1 0 0, .pt 5 [iv y_.kind, iv y_.sign, iv y_.a, iv y_.b, iv y_.cost]), (x13, obS ((some ([c9, c10, c11, c12] : List Int)) : Sl Int))] := O15
  refine sim_callQ1 he_cmp_Or_int ((O15.tab (A := Int) (s := (some ([c9, c10, c11, c12] : List Int))) 2 rfl).snap) (fun c17 => ?_)
  refine sim_let2 (hand_plain (by rfl) _ _) ?_
  exact sim_ret (release_plain (by rfl) _)
theorem tt_impl_compareChoices : PureOK Try.prog n_impl_compareChoices (C2 (fun c : Int => enc c) t_impl_compareChoices) := pureC2 (Econs tt_cmp_Compare_int (Econs ok_cmp_Compare_int64 (Econs tt_cmp_Or_int E0))) mixed hb_impl_compareChoices fun x_ y_ => ts_impl_compareChoices _ (by simp [envL]) (by simp [envL]) (by simp [envL]) x_ y_

def t_impl_parser_try (p_ : Parser) (set_ : Int) (c_ : Choice) (sign_ : Box) : Option Parser :=
  obind (getI (p_.count.getD []) c_.a) fun a9 =>
  obind (bif decide (a9 = 0) then some false else (some (!decide (c_.b = 0)))) fun c14 =>
  obind (bif (!(decide (a9 = 0)) && c14) then (obind (getI (p_.count.getD []) c_.b) fun a19 => some (decide (a19 = 0))) else some false) fun c23 =>
  obind (bif decide (a9 = 0) then some false else (some (bif c14 then c23 else false))) fun c33 =>
  bif (bif decide (a9 = 0) then true else c33) then
    some (⟨p_.list, p_.boxes, p_.best, p_.count⟩ : Parser)
  else
    obind (getI (p_.count.getD []) c_.a) fun a36 =>
    obind (getI (p_.best.getD []) c_.a) fun a40 =>
    obind (getI (p_.boxes.getD []) c_.a) fun a44 =>
    bif !decide (c_.b = 0) then
      obind (getI (p_.count.getD []) c_.b) fun a55 =>
      obind (getI (p_.best.getD []) c_.b) fun a59 =>
      obind (getI (p_.boxes.getD []) c_.b) fun a63 =>
      obind (getI (p_.boxes.getD []) c_.a) fun a69 =>
      obind (t_impl_joinCost c_.kind a69 a63 sign_) fun c73 =>
      bif !c73.2 then
        some (⟨p_.list, p_.boxes, p_.best, p_.count⟩ : Parser)
      else
        obind (getI (p_.count.getD []) set_) fun a78 =>
        obind (bif decide (a78 = 0) then some false else (obind (getI (p_.best.getD []) set_) fun a83 => obind (t_impl_compareChoices (⟨c_.kind, c_.sign, c_.a, c_.b, wr ((wr (a40.cost + a59.cost)) + c73.1)⟩ : Choice) a83) fun c87 => some (decide (c87 < 0)))) fun c88 =>
        bif (bif decide (a78 = 0) then true else c88) then
          obind (getI (p_.best.getD []) set_) fun a99 =>
          obind (getI (p_.count.getD []) set_) fun a105 =>
          obind (getI (p_.count.getD []) set_) fun a109 =>
          some (⟨p_.list, p_.boxes, (setS p_.best set_ (⟨c_.kind, c_.sign, c_.a, c_.b, wr ((wr (a40.cost + a59.cost)) + c73.1)⟩ : Choice)), (setS p_.count set_ (wr (a105 + (wr (a36 * a55)))))⟩ : Parser)
        else
          obind (getI (p_.count.getD []) set_) fun a116 =>
          obind (getI (p_.count.getD []) set_) fun a120 =>
          some (⟨p_.list, p_.boxes, p_.best, (setS p_.count set_ (wr (a116 + (wr (a36 * a55)))))⟩ : Parser)
    else
      obind (getI (p_.boxes.getD []) c_.a) fun a127 =>
      obind (t_impl_joinCost c_.kind a127 a44 sign_) fun c131 =>
      bif !c131.2 then
        some (⟨p_.list, p_.boxes, p_.best, p_.count⟩ : Parser)
      else
        obind (getI (p_.count.getD []) set_) fun a136 =>
        obind (bif decide (a136 = 0) then some false else (obind (getI (p_.best.getD []) set_) fun a141 => obind (t_impl_compareChoices (⟨c_.kind, c_.sign, c_.a, c_.b, wr (a40.cost + c131.1)⟩ : Choice) a141) fun c145 => some (decide (c145 < 0)))) fun c146 =>
        bif (bif decide (a136 = 0) then true else c146) then
          obind (getI (p_.best.getD []) set_) fun a157 =>
          obind (getI (p_.count.getD []) set_) fun a163 =>
          obind (getI (p_.count.getD []) set_) fun a167 =>
          some (⟨p_.list, p_.boxes, (setS p_.best set_ (⟨c_.kind, c_.sign, c_.a, c_.b, wr (a40.cost + c131.1)⟩ : Choice)), (setS p_.count set_ (wr (a163 + a36)))⟩ : Parser)
        else
          obind (getI (p_.count.getD []) set_) fun a174 =>
          obind (getI (p_.count.getD []) set_) fun a178 =>
          some (⟨p_.list, p_.boxes, p_.best, (setS p_.count set_ (wr (a174 + a36)))⟩ : Parser)

end Go.Proofs.Ytcdahloanikigaa
