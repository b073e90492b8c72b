/-
  The law FnExactModelText holds, for all arguments: it returns true, and its arguments read behind the call as before. No condition.
-/
import Derived.Test.YtielmmmoldloeaaDoorFnExactModelTextGen
import Derived.Test.YtielmmmoldloeaaDoorRows
import Derived.Test.YtielmmmoldloeaaDoorCards
import Derived.Test.YtielmmmoldloeaaDoorTie
import Derived.SevenTiedAt
namespace Go.Proofs.YtielmmmoldloeaaDoor
open Go Go.Eng Go.Eng.Cod
set_option maxRecDepth 100000
set_option linter.unusedVariables false
set_option linter.unusedSimpArgs false

theorem nil_ok : EnvOK Tryd.prog (envL []) := E0

def within (a b c : Int) : Bool := decide (b ≤ a) && decide (a ≤ c)

theorem ok_impl_within : PureOK Tryd.prog n_impl_within (T3 within) := pureT3 nil_ok mixed hb_impl_within fun a b c => by
  simp [e_impl_within, within]

theorem ok_spec_l00In : PureOK Tryd.prog n_spec_l00In (T3 within) := pureT3 nil_ok mixed hb_spec_l00In fun a b c => by
  simp [e_spec_l00In, within]

def validBox (b : Box) : Bool := within b.x1 0 b.x2 && within b.y1 0 b.y2 && decide (b.x2 ≤ 4095) && decide (b.y2 ≤ 4095)

theorem ok_impl_ValidBox : PureOK Tryd.prog n_impl_ValidBox (T1 validBox) :=
  pureT1 (E1 ok_impl_within) mixed hb_impl_ValidBox fun b => by
  simp [e_impl_ValidBox, envL, aBox, aLoad, cut, validBox]

theorem ok_laws_toBigram : PureOK Tryd.prog n_laws_toBigram (T1 fun b : Bigram => b) := pureT1 E0 mixed hb_laws_toBigram fun b => by
  simp [e_laws_toBigram, envL, aBox, aLoad, cut, aStore, splice, retL, resL, pack]

theorem ok_laws_eqBigram : PureOK Tryd.prog n_laws_eqBigram (T2 fun a b : Bigram => decide (a = b)) := pureT2 E0 mixed hb_laws_eqBigram fun a b => by
  simp [e_laws_eqBigram, envL, aBox, aLoad, cut]
  obtain ⟨a0, a1, a2⟩ := a
  obtain ⟨b0, b1, b2⟩ := b
  simp

def names : List ByteArray := [⟨#[110, 111, 110, 101]⟩, ⟨#[114, 105, 103, 104, 116]⟩, ⟨#[97, 98, 111, 118, 101]⟩, ⟨#[98, 101, 108, 111, 119]⟩, ⟨#[117, 112, 112, 101, 114]⟩, ⟨#[108, 111, 119, 101, 114]⟩, ⟨#[105, 110, 115, 105, 100, 101]⟩]
@[simp] theorem names_len : names.length = 7 := rfl

def find (s : ByteArray) : List ByteArray → Nat → Int
  | [], _ => -1
  | x :: r, i => bif decide (x = s) then (i : Int) else find s r (i + 1)
def relationNamed (s : ByteArray) : Int × Int := bif decide (find s names 0 < 0) then (0, 3) else (find s names 0, 0)
theorem find_pos (s : ByteArray) : ∀ (l : List ByteArray) (i : Nat), find s l i = -1 ∨ 0 ≤ find s l i
  | [], _ => .inl rfl
  | x :: r, i => by
    unfold find
    cases decide (x = s)
    · simpa using find_pos s r (i + 1)
    · right; simp

def isLow (b : UInt8) : Bool := decide ((97 : Int) ≤ (b.toNat : Int)) && decide ((b.toNat : Int) ≤ 122)

theorem ok_impl_isLetter : PureOK Tryd.prog n_impl_isLetter (T1 isLow) := pureT1 E0 mixed hb_impl_isLetter fun b => by
  simp [e_impl_isLetter, isLow]

theorem ok_spec_l01Small : PureOK Tryd.prog n_spec_l01Small (T1 isLow) := pureT1 E0 mixed hb_spec_l01Small fun b => by
  simp [e_spec_l01Small, isLow]

def isWord (s : ByteArray) : Bool := (bl s).all isLow && (decide (1 ≤ s.size) && decide (s.size ≤ 10))

theorem ok_impl_isCost : PureOK Tryd.prog n_impl_isCost (T1 fun y => within y 0 1000000) := pureT1 (E1 ok_impl_within) mixed hb_impl_isCost fun y => by
  simp [e_impl_isCost, envL]

def isFirst (s : ByteArray) : Bool := decide (s = ⟨#[]⟩) || isWord s
def validBigram (b : Bigram) : Bool := isWord b.second && (isFirst b.first && within b.cost 0 1000000)
theorem fit_bigram {b : Bigram} (h : fit b = true) : fit b.first = true ∧ fit b.second = true := by
  rw [fit_iff, wt_Bigram] at h
  rw [fit_iff, fit_iff]
  omega

def before (a b : Bigram) : Bool := ltS a.first b.first || (decide (a.first = b.first) && ltS a.second b.second)
def beforeAt (l : List Bigram) (i j : Nat) : Bool := match l[i]?, l[j]? with
  | some a, some b => before a b
  | _, _ => false
theorem ok_spec_l18Before : PureOK Tryd.prog n_spec_l18Before (G2 (fun p q : Pt Bigram => decide (p.i < p.tab.length) && decide (q.i < q.tab.length)) fun p q => bv (match p.tab[p.i]?, q.tab[q.i]? with
    | some a, some b => before a b
    | _, _ => false)) :=
  pureG2 E0 mixed hb_spec_l18Before fun p q h => by
  obtain ⟨l, i⟩ := p
  obtain ⟨m, j⟩ := q
  simp at h
  obtain ⟨hi, hj⟩ := h
  obtain ⟨a, ha⟩ : ∃ b, l[i]'hi = b := ⟨_, rfl⟩
  obtain ⟨b, hb⟩ : ∃ b, m[j]'hj = b := ⟨_, rfl⟩
  have L := fun g n j h => load_fptr (A := Bigram) g n 3 i j l h
  have M := fun g n k h => load_fptr (A := Bigram) g n 3 j k m h
  cases w1 : ltS a.first b.first
  · simp [e_spec_l18Before, L, M, hi, hj, ha, hb, cut, before, w1]
    cases decide (a.first = b.first) <;> simp [L, M, hi, hj, ha, hb, cut]
  · simp [e_spec_l18Before, L, M, hi, hj, ha, hb, cut, before, w1]

def cmpS (a b : ByteArray) : Int := bif ltS a b then -1 else bif decide (a = b) then 0 else 1
theorem ok_cmp_isNaN_string : PureOK Tryd.prog n_cmp_isNaN_string (T1 fun _ : ByteArray => false) := pureT1 E0 mixed hb_cmp_isNaN_string fun a => by
  simp [e_cmp_isNaN_string]

theorem ok_cmp_Compare_string : PureOK Tryd.prog n_cmp_Compare_string (T2 cmpS) := pureT2 (E1 ok_cmp_isNaN_string) mixed hb_cmp_Compare_string fun a b => by
  cases w1 : ltS a b <;> by_cases w2 : a = b <;> simp [e_cmp_Compare_string, envL, cmpS, w1, w2]
  all_goals simp_all

def orI : List Int → Int
  | [] => 0
  | a :: l => bif decide (a = 0) then orI l else a

theorem lp_cmp_Or_int (env : Nat → Contract) {y0 y1 y4 y17 : AV} (q : Sl Int) (hq : fit q = true) :
    (obind (loopP hm0_cmp_Or_int xm0_cmp_Or_int (lb0_cmp_Or_int env) [y0, y1, .top, iv 0, y4, .top, Sl.enc q, iv ((q.getD []).length : Nat), iv 0, .top, .top, .top, .top, .top, .top, .top, .top, y17] []) fun r => lk0_cmp_Or_int env r.1 r.2.1 r.2.2) = some (iv (orI (q.getD [])), []) := by
  have T := lookT q (w := 1) rfl
  have L := loop_over (q.getD []) (fit_max hq) (hmk := hm0_cmp_Or_int) (xm := xm0_cmp_Or_int) (body := lb0_cmp_Or_int env) (K := fun r => lk0_cmp_Or_int env r.1 r.2.1 r.2.2) (σ := Unit) (fun _ (i : Nat) => [y0, y1, .top, iv 0, y4, .top, Sl.enc q, iv ((q.getD []).length : Nat), iv (i : Nat), .top, .top, .top, .top, .top, .top, .top, .top, y17]) (fun _ => [])
    (fun _ _ => True) (fun _ suf => some (iv (orI suf), []))
    (fun pre k suf u hl hi S => by
      by_cases hk : k = 0
      · right
        refine ⟨(), trivial, ?_, by simp [orI, hk]⟩
        rw [loopP.eq_1]
        simp [e_lb0_cmp_Or_int, T.len, T.idx, T.load, S.idx, S.lt, S.elt, cut, S.wr, hk, restr]
      · left
        rw [loopP.eq_1]
        simp [e_lb0_cmp_Or_int, T.len, T.idx, T.load, S.idx, S.lt, S.elt, cut, S.wr, hk, restr, e_lk0r_cmp_Or_int, orI])
    (fun u hi => by
      rw [loopP.eq_1]
      simp [e_lb0_cmp_Or_int, T.len, restr, e_lk0x0_cmp_Or_int, orI]) () trivial
  simpa using L
theorem ok_cmp_Or_int : PureOK Tryd.prog n_cmp_Or_int (G1 (fun q : Sl Int => fit q) fun q => iv (orI (q.getD []))) :=
  pureG1 E0 mixed hb_cmp_Or_int fun q hq => by
  have T := lookT q (w := 1) rfl
  have L := fun env {y0 y1 y4 y17} => @lp_cmp_Or_int env y0 y1 y4 y17 q hq
  simp [e_cmp_Or_int, T.len, L]

def cmpB (a b : Bigram) : Int := orI [cmpS a.first b.first, cmpS a.second b.second]
theorem cmpB_before (a b : Bigram) : decide (0 ≤ cmpB a b) = !before a b := by
  unfold cmpB before cmpS orI orI orI
  cases ltS a.first b.first <;> by_cases h : a.first = b.first <;> cases ltS a.second b.second <;> by_cases h2 : a.second = b.second <;> simp [h, h2]

theorem ok_impl_compareBigrams : PureOK Tryd.prog n_impl_compareBigrams (T2 cmpB) := pureT2 (E2 ok_cmp_Compare_string ok_cmp_Or_int) mixed hb_impl_compareBigrams fun a b => by
  have S := fun (M N : AObj) => snapD_sl (A := Int) [M, N, ⟨1, [[iv (cmpS a.first b.first)], [iv (cmpS a.second b.second)]]⟩] (o := 2) (ep := 2) (n := 2) [cmpS a.first b.first, cmpS a.second b.second] rfl rfl rfl
  have f : fit (some [cmpS a.first b.first, cmpS a.second b.second] : Sl Int) = true := rfl
  simp [e_impl_compareBigrams, envL, aBox, aLoad, cut, aBuildSlice, zrows, aFillRows, S, f, cmpB]

theorem ok_internal_bytealg_IndexByteString : PureOK Tryd.prog n_internal_bytealg_IndexByteString (T2 indexB) :=
  pure_indexByte (fn := Tryd.f131) Tryd.func131 (by kernel_rfl) (by kernel_rfl) (by kernel_rfl) (by kernel_rfl)

theorem ok_internal_stringslite_IndexByte : PureOK Tryd.prog n_internal_stringslite_IndexByte (T2 indexB) := pureT2 (E1 ok_internal_bytealg_IndexByteString) mixed hb_internal_stringslite_IndexByte fun s b => by
  simp [e_internal_stringslite_IndexByte, envL]

def byte0 (t : ByteArray) : UInt8 := (bl t).headD 0
theorem one_byte {t : ByteArray} (h : t.size = 1) : bl t = [byte0 t] := by
  have : (bl t).length = 1 := by rw [bl_len, h]
  match hb : bl t, this with
  | [b], _ => simp [byte0, hb]
theorem ok_internal_stringslite_Index : PureOK Tryd.prog n_internal_stringslite_Index (G2 (fun _ t : ByteArray => decide (t.size = 1)) fun s t => iv (indexB s (byte0 t))) :=
  pureG2 (E1 ok_internal_stringslite_IndexByte) mixed hb_internal_stringslite_Index fun s t h => by
  have h1 : t.size = 1 := of_decide_eq_true h
  have h2 : aLenK .str (sv t) = some (iv 1) := by rw [aLenK_str, h1]; rfl
  have h3 : aCmp .eql .plain (iv 1) (iv 0) = some (bv false) := rfl
  have h4 : aCmp .eql .plain (iv 1) (iv 1) = some (bv true) := rfl
  have h5 : aIndexStr (sv t) (iv 0) = some (bt (byte0 t)) := by
    rw [idx_str, h1, one_byte h1]
    rfl
  rw [e_internal_stringslite_Index]
  simp only [enc_str, h2, obind_sm, h3, guardB_false, cond_false, aCmp_eqS, obind2_sm, aPick_bv, condB_bv]
  by_cases e : t = s
  · subst e
    have e0 : indexB t (byte0 t) = 0 := by
      obtain ⟨⟨l⟩⟩ := t
      match l, h1 with
      | [b], _ => 
        show (match (List.range 1).find? (fun i => (⟨#[b]⟩ : ByteArray)[i]! == b) with | some i => (i : Int) | none => -1) = 0
        have : ((⟨#[b]⟩ : ByteArray)[0]! == b) = true := by
          have : (⟨#[b]⟩ : ByteArray)[0]! = b := rfl
          rw [this]
          simp
        simp [List.range_succ, this]
    simp only [decide_true, cond_true, obind_sm, release_iv, e0]
  · simp only [e, decide_false, cond_false, h4, obind_sm, cond_true, h5]
    simp [envL]

theorem ok_strings_Index : PureOK Tryd.prog n_strings_Index (G2 (fun _ t : ByteArray => decide (t.size = 1)) fun s t => iv (indexB s (byte0 t))) :=
  pureG2 (E1 ok_internal_stringslite_Index) mixed hb_strings_Index fun s t h => by
  simp [e_strings_Index, envL, of_decide_eq_true h]

theorem ok_strings_Contains : PureOK Tryd.prog n_strings_Contains (G2 (fun _ t : ByteArray => decide (t.size = 1)) fun s t => bv (decide (0 ≤ indexB s (byte0 t)))) :=
  pureG2 (E1 ok_strings_Index) mixed hb_strings_Contains fun s t h => by
  simp [e_strings_Contains, envL, of_decide_eq_true h]

def labelB (b : UInt8) : Bool := decide ((b.toNat : Int) = 43) || (decide ((b.toNat : Int) = 45) || (decide ((b.toNat : Int) = 42) || (decide ((b.toNat : Int) = 47) || (decide ((b.toNat : Int) = 61) || (decide ((b.toNat : Int) = 40) || (decide ((b.toNat : Int) = 41) || (decide ((b.toNat : Int) = 46) || (decide ((b.toNat : Int) = 44) ||
  (isLow b || (decide ((48 : Int) ≤ (b.toNat : Int)) && decide ((b.toNat : Int) ≤ 57)))))))))))
def labelSet : ByteArray := ⟨#[48, 49, 50, 51, 52, 53, 54, 55, 56, 57, 43, 45, 42, 47, 61, 40, 41, 46, 44]⟩
theorem label_all : ∀ n : Fin 256, (isLow (UInt8.ofNat n.val) || decide (0 ≤ indexB labelSet (UInt8.ofNat n.val))) = labelB (UInt8.ofNat n.val) := by decide +kernel
theorem label_eq (b : UInt8) : (isLow b || decide (0 ≤ indexB labelSet b)) = labelB b := by
  have := label_all ⟨b.toNat, b.toNat_lt⟩
  simpa using this
def isLabel (s : ByteArray) : Bool := decide (s.size = 1) && labelB (byte0 s)

theorem ok_impl_IsLabel : PureOK Tryd.prog n_impl_IsLabel (T1 isLabel) := pureT1 (E2 ok_impl_isLetter ok_strings_Contains) mixed hb_impl_IsLabel fun s => by
  by_cases h1 : s.size = 1
  · have h5 : aIndexStr (sv s) (iv 0) = some (bt (byte0 s)) := by
      rw [idx_str, h1, one_byte h1]
      rfl
    have hl := label_eq (byte0 s)
    unfold labelSet at hl
    cases hw : isLow (byte0 s)
    · rw [hw] at hl
      simp at hl
      simp [e_impl_IsLabel, envL, h5, h1, hw, isLabel, hl]
    · rw [hw] at hl
      simp at hl
      simp [e_impl_IsLabel, envL, h5, h1, hw, isLabel, hl]
  · have h2 : ¬ ((s.size : Nat) : Int) = 1 := by omega
    simp [e_impl_IsLabel, h2, h1, isLabel]

def okSym (s : Symbol) : Bool := isLabel s.label && validBox s.box
def validSymbols (l : List Symbol) : Bool := decide (l.length ≤ 8) && l.all okSym
theorem ok_impl_ValidSymbols_1 : PureOK Tryd.prog n_impl_ValidSymbols_1 (T1 fun s : Symbol => !okSym s) := pureT1 (E2 ok_impl_IsLabel ok_impl_ValidBox) mixed hb_impl_ValidSymbols_1 fun s => by
  simp [e_impl_ValidSymbols_1, envL, aBox, aLoad, cut, okSym]

theorem tt_strconv_FormatInt : PureOK Tryd.prog n_strconv_FormatInt (C2 (fun c : ByteArray => enc c) fmtO) :=
  pure_formatInt hb_strconv_FormatInt (by kernel_rfl) fun n h0 h1 w ht => Go.Proofs.Any.strconv_FormatInt_10 layFmt n h0 h1 w ht

def t_laws_szBigram (a_ : Bigram) (left_ : Int) : Option Int :=
  bif decide ((wr (left_ - (a_.first.size : Int))) < 0) then
    some (-1)
  else
    bif decide ((wr ((wr (left_ - (a_.first.size : Int))) - (a_.second.size : Int))) < 0) then
      some (-1)
    else
      some (wr ((wr (left_ - (a_.first.size : Int))) - (a_.second.size : Int)))

theorem ts_laws_szBigram (env : Nat → Contract)  (a_ : Bigram) (left_ : Int) : Sim (denFn Tryd.prog env n_laws_szBigram [AV.agg [sv a_.first, sv a_.second, iv a_.cost], iv left_] []) (t_laws_szBigram a_ left_) fun c p => release p.2 depth p.1 = some ((fun c : Int => enc c) c) := by
  have O := Hold.nil []
  generalize hB : (⟨[], []⟩ : Base) = B at O
  clear hB
  rw [e_laws_szBigram]
  unfold t_laws_szBigram
  refine sim_box O (cs := [sv a_.first, sv a_.second, iv a_.cost]) (by first | rfl | simp) (fun o1 h2 O3 => ?_)
  replace O3 : Hold B h2 [(AV.ptr o1 1 0 0, .pt 3 [sv a_.first, sv a_.second, iv a_.cost])] := O3
  refine sim_let (v := AV.ptr o1 1 0 0) rfl ?_
  refine sim_let (v := sv a_.first) (O3.ld 0 rfl false 1 0) ?_
  refine sim_let (v := iv (a_.first.size : Int)) rfl ?_
  refine sim_let (v := iv (wr (left_ - (a_.first.size : Int)))) (aBin_sub _ _) ?_
  refine sim_let (v := bv (decide ((wr (left_ - (a_.first.size : Int))) < 0))) (aBin_lss _ _) ?_
  refine sim_cond (fun c5 => ?_) (fun c5 => ?_)
  · exact sim_ret (release_plain (by rfl) _)
  · refine sim_let (v := AV.ptr o1 1 0 1) rfl ?_
    refine sim_let (v := sv a_.second) (O3.ld 0 rfl false 1 1) ?_
    refine sim_let (v := iv (a_.second.size : Int)) rfl ?_
    refine sim_let (v := iv (wr ((wr (left_ - (a_.first.size : Int))) - (a_.second.size : Int)))) (aBin_sub _ _) ?_
    refine sim_let (v := bv (decide ((wr ((wr (left_ - (a_.first.size : Int))) - (a_.second.size : Int))) < 0))) (aBin_lss _ _) ?_
    refine sim_cond (fun c6 => ?_) (fun c6 => ?_)
    · exact sim_ret (release_plain (by rfl) _)
    · exact sim_ret (release_plain (by rfl) _)
theorem tt_laws_szBigram : PureOK Tryd.prog n_laws_szBigram (C2 (fun c : Int => enc c) t_laws_szBigram) := pureC2 E0 mixed hb_laws_szBigram fun a_ left_ => ts_laws_szBigram _  a_ left_

def s0_laws_szBigramS (a_ : Sl Bigram) : (Int × Int) → Option (Sum (Int × Int) (Sum Int Int)) := fun (w4, w5) =>
  bif decide (w5 < (((a_.getD []).length : Nat) : Int)) then
    obind (getI (a_.getD []) w5) fun a17 =>
    obind (t_laws_szBigram a17 w4) fun c21 =>
    bif decide (c21 < 0) then
      some (.inr (.inr (-1)))
    else
      some (.inl (c21, wr (w5 + 1)))
  else
    some (.inr (.inl w4))
def t_laws_szBigramS (a_ : Sl Bigram) (left_ : Int) : Option Int :=
  bif decide ((wr (left_ - (((a_.getD []).length : Nat) : Int))) < 0) then
    some (-1)
  else
    obind (loopT (s0_laws_szBigramS a_) (wr (left_ - (((a_.getD []).length : Nat) : Int)), 0)) fun qq27 => match qq27 with
    | (.inl q8) =>
        some q8
    | (.inr q14) =>
        some q14

theorem tl0_laws_szBigramS (env : Nat → Contract) {B : Base} (he_laws_szBigram : env n_laws_szBigram = .pure (C2 (fun c : Int => enc c) t_laws_szBigram)) (a_ : Sl Bigram) (left_ : Int)  {st : Int × Int} {tm : TM} {h : Heap} (R : (fun (st : Int × Int) tm h2 => match st with | (w4, w5) => tm = [Sl.enc a_, iv w4, und, und, AV.top, iv w5, iv left_, Sl.enc a_, iv (((a_.getD []).length : Nat) : Int), iv (wr (left_ - (((a_.getD []).length : Nat) : Int))), iv (wr (left_ - (((a_.getD []).length : Nat) : Int))), bv (decide ((wr (left_ - (((a_.getD []).length : Nat) : Int))) < 0)), AV.top, AV.top, AV.top, AV.top, AV.top, AV.top, AV.top, AV.top, AV.top, AV.top, AV.top, AV.top, AV.top, AV.top, und] ∧ Hold B h2 []) st tm h) : Sim (loopP hm0_laws_szBigramS xm0_laws_szBigramS (lb0_laws_szBigramS env) tm h) (loopT (s0_laws_szBigramS a_) st) (fun (q : Sum Int Int) (r : Res) => match q with | .inl q8 => ∃ (q10 : Int) (z9 : AV) (h6 : Heap), r = (.exit 0, [Sl.enc a_, iv q8, und, und, z9, iv q10, iv left_, Sl.enc a_, iv (((a_.getD []).length : Nat) : Int), iv (wr (left_ - (((a_.getD []).length : Nat) : Int))), iv (wr (left_ - (((a_.getD []).length : Nat) : Int))), bv (decide ((wr (left_ - (((a_.getD []).length : Nat) : Int))) < 0)), AV.top, AV.top, AV.top, AV.top, AV.top, AV.top, AV.top, AV.top, AV.top, AV.top, AV.top, AV.top, AV.top, AV.top, und], h6) ∧ Hold B h6 [] | .inr q14 => ∃ (q13 : Int) (q15 : Int) (h11 : Heap), r = (.ret, [Sl.enc a_, iv q13, und, und, iv q14, iv q15, iv left_, Sl.enc a_, iv (((a_.getD []).length : Nat) : Int), iv (wr (left_ - (((a_.getD []).length : Nat) : Int))), iv (wr (left_ - (((a_.getD []).length : Nat) : Int))), bv (decide ((wr (left_ - (((a_.getD []).length : Nat) : Int))) < 0)), AV.top, AV.top, AV.top, AV.top, AV.top, AV.top, AV.top, AV.top, AV.top, AV.top, AV.top, AV.top, AV.top, AV.top, und], h11) ∧ Hold B h11 []) := by
  refine loop_sim (Rel := fun (st : Int × Int) tm h2 => match st with | (w4, w5) => tm = [Sl.enc a_, iv w4, und, und, AV.top, iv w5, iv left_, Sl.enc a_, iv (((a_.getD []).length : Nat) : Int), iv (wr (left_ - (((a_.getD []).length : Nat) : Int))), iv (wr (left_ - (((a_.getD []).length : Nat) : Int))), bv (decide ((wr (left_ - (((a_.getD []).length : Nat) : Int))) < 0)), AV.top, AV.top, AV.top, AV.top, AV.top, AV.top, AV.top, AV.top, AV.top, AV.top, AV.top, AV.top, AV.top, AV.top, und] ∧ Hold B h2 []) (fun st tm h2 R => ?_) R
  obtain ⟨w4, w5⟩ := st
  obtain ⟨rfl, O3⟩ := R
  rw [e_lb0_laws_szBigramS]
  unfold s0_laws_szBigramS
  dsimp only
  refine sim_let (v := iv (((a_.getD []).length : Nat) : Int)) (Tab.enc h2 a_).len ?_
  refine sim_let (v := bv (decide (w5 < (((a_.getD []).length : Nat) : Int)))) (aBin_lss _ _) ?_
  refine sim_cond (fun c16 => ?_) (fun c16 => ?_)
  · refine sim_get (Tab.enc h2 a_) (fun m18 a17 hi19 hm20 => ?_)
    refine sim_let (v := AV.agg [sv a17.first, sv a17.second, iv a17.cost]) ((Tab.enc h2 a_).ld hm20 true 3 0) ?_
    refine sim_call2 he_laws_szBigram (snapD_nr _ a17 rfl) (snapD_int _ _) (fun c21 => ?_)
    refine sim_let2 (hand_plain (by rfl) _ _) ?_
    refine sim_let (v := bv (decide (c21 < 0))) (aBin_lss _ _) ?_
    refine sim_cond (fun c22 => ?_) (fun c22 => ?_)
    · exact sim_ret ⟨nofun, _, _, _, rfl, O3⟩
    · refine sim_let (v := iv (wr (w5 + 1))) (aBin_add _ _) ?_
      exact sim_ret ⟨rfl, rfl, O3⟩
  · exact sim_ret ⟨nofun, _, _, _, rfl, O3⟩
theorem ts_laws_szBigramS (env : Nat → Contract) (he_laws_szBigram : env n_laws_szBigram = .pure (C2 (fun c : Int => enc c) t_laws_szBigram)) (a_ : Sl Bigram) (left_ : Int) : Sim (denFn Tryd.prog env n_laws_szBigramS [Sl.enc a_, iv left_] []) (t_laws_szBigramS a_ left_) fun c p => release p.2 depth p.1 = some ((fun c : Int => enc c) c) := by
  have O := Hold.nil []
  generalize hB : (⟨[], []⟩ : Base) = B at O
  clear hB
  rw [e_laws_szBigramS]
  unfold t_laws_szBigramS
  refine sim_let (v := iv (((a_.getD []).length : Nat) : Int)) (Tab.enc [] a_).len ?_
  refine sim_let (v := iv (wr (left_ - (((a_.getD []).length : Nat) : Int)))) (aBin_sub _ _) ?_
  refine sim_let (v := bv (decide ((wr (left_ - (((a_.getD []).length : Nat) : Int))) < 0))) (aBin_lss _ _) ?_
  refine sim_cond (fun c1 => ?_) (fun c1 => ?_)
  · exact sim_ret (release_plain (by rfl) _)
  · refine sim_bind ((tl0_laws_szBigramS env he_laws_szBigram a_ left_) ⟨rfl, O⟩) (fun qq27 r hq => ?_)
    rcases qq27 with q8 | q14
    · obtain ⟨q10, z9, h6, rfl, O7⟩ := hq
      rw [e_lk0x0_laws_szBigramS]
      exact sim_ret (release_plain (by rfl) _)
    · obtain ⟨q13, q15, h11, rfl, O12⟩ := hq
      rw [e_lk0r_laws_szBigramS]
      exact sim_ret (release_plain (by rfl) _)
theorem tt_laws_szBigramS : PureOK Tryd.prog n_laws_szBigramS (C2 (fun c : Int => enc c) t_laws_szBigramS) := pureC2 (Econs tt_laws_szBigram E0) mixed hb_laws_szBigramS fun a_ left_ => ts_laws_szBigramS _ (by simp [envL]) a_ left_

def t_laws_szModel (a_ : Model) (left_ : Int) : Option Int :=
  obind (t_laws_szBigramS a_.bigrams left_) fun c5 =>
  bif decide (c5 < 0) then
    some (-1)
  else
    some c5

theorem ts_laws_szModel (env : Nat → Contract) (he_laws_szBigramS : env n_laws_szBigramS = .pure (C2 (fun c : Int => enc c) t_laws_szBigramS)) (a_ : Model) (left_ : Int) : Sim (denFn Tryd.prog env n_laws_szModel [AV.agg [iv a_.default, Sl.enc a_.bigrams], iv left_] []) (t_laws_szModel a_ left_) fun c p => release p.2 depth p.1 = some ((fun c : Int => enc c) c) := by
  have O := Hold.nil []
  generalize hB : (⟨[], []⟩ : Base) = B at O
  clear hB
  rw [e_laws_szModel]
  unfold t_laws_szModel
  refine sim_box O (cs := [iv a_.default, Sl.enc a_.bigrams]) (by first | rfl | simp) (fun o1 h2 O3 => ?_)
  replace O3 : Hold B h2 [(AV.ptr o1 1 0 0, .pt 2 [iv a_.default, Sl.enc a_.bigrams])] := O3
  refine sim_let (v := AV.ptr o1 1 0 1) rfl ?_
  refine sim_let (v := Sl.enc a_.bigrams) (O3.ld 0 rfl false 1 1) ?_
  refine sim_call2 he_laws_szBigramS (snapD_enc _ _) (snapD_int _ _) (fun c5 => ?_)
  refine sim_let2 (hand_plain (by rfl) _ _) ?_
  refine sim_let (v := bv (decide (c5 < 0))) (aBin_lss _ _) ?_
  refine sim_cond (fun c6 => ?_) (fun c6 => ?_)
  · exact sim_ret (release_plain (by rfl) _)
  · exact sim_ret (release_plain (by rfl) _)
theorem tt_laws_szModel : PureOK Tryd.prog n_laws_szModel (C2 (fun c : Int => enc c) t_laws_szModel) := pureC2 (Econs tt_laws_szBigramS E0) mixed hb_laws_szModel fun a_ left_ => ts_laws_szModel _ (by simp [envL]) a_ left_

def s0_laws_toBigramS (a_ : Sl Bigram) : ((Sl Bigram) × Int) → Option (Sum ((Sl Bigram) × Int) (Sl Bigram)) := fun (w6, w9) =>
  bif decide (w9 < (((a_.getD []).length : Nat) : Int)) then
    obind (getI (a_.getD []) w9) fun a15 =>
    obind (some ((fun b : Bigram => b) a15)) fun c19 =>
    obind (getI (w6.getD []) w9) fun a20 =>
    some (.inl ((setS w6 w9 c19), wr (w9 + 1)))
  else
    some (.inr w6)
def t_laws_toBigramS (a_ : Sl Bigram) : Option (Sl Bigram) :=
  obind (makeO (⟨(⟨#[]⟩ : ByteArray), (⟨#[]⟩ : ByteArray), 0⟩ : Bigram) (((a_.getD []).length : Nat) : Int)) fun l5 =>
  obind (loopT (s0_laws_toBigramS a_) ((some l5), 0)) fun q12 =>
  some q12

theorem tl0_laws_toBigramS (env : Nat → Contract) {B : Base} (he_laws_toBigram : env n_laws_toBigram = .pure (T1 (fun b : Bigram => b))) (a_ : Sl Bigram) (x1 : AV)  {st : (Sl Bigram) × Int} {tm : TM} {h : Heap} (R : (fun (st : (Sl Bigram) × Int) tm h7 => match st with | (w6, w9) => tm = [Sl.enc a_, und, nilS, x1, iv w9, Sl.enc a_, iv (((a_.getD []).length : Nat) : Int), x1, AV.top, AV.top, AV.top, AV.top, AV.top, AV.top, AV.top, AV.top, AV.top, AV.top, AV.top, AV.top, AV.top, AV.top, und] ∧ Hold B h7 [(x1, obS (w6 : Sl Bigram))]) st tm h) : Sim (loopP hm0_laws_toBigramS xm0_laws_toBigramS (lb0_laws_toBigramS env) tm h) (loopT (s0_laws_toBigramS a_) st) (fun (q : Sl Bigram) (r : Res) => match q with | q12 => ∃ (q13 : Int) (h10 : Heap), r = (.exit 0, [Sl.enc a_, und, nilS, x1, iv q13, Sl.enc a_, iv (((a_.getD []).length : Nat) : Int), x1, AV.top, AV.top, AV.top, AV.top, AV.top, AV.top, AV.top, AV.top, AV.top, AV.top, AV.top, AV.top, AV.top, AV.top, und], h10) ∧ Hold B h10 [(x1, obS (q12 : Sl Bigram))]) := by
  refine loop_sim (Rel := fun (st : (Sl Bigram) × Int) tm h7 => match st with | (w6, w9) => tm = [Sl.enc a_, und, nilS, x1, iv w9, Sl.enc a_, iv (((a_.getD []).length : Nat) : Int), x1, AV.top, AV.top, AV.top, AV.top, AV.top, AV.top, AV.top, AV.top, AV.top, AV.top, AV.top, AV.top, AV.top, AV.top, und] ∧ Hold B h7 [(x1, obS (w6 : Sl Bigram))]) (fun st tm h7 R => ?_) R
  obtain ⟨w6, w9⟩ := st
  obtain ⟨rfl, O8⟩ := R
  rw [e_lb0_laws_toBigramS]
  unfold s0_laws_toBigramS
  dsimp only
  refine sim_let (v := iv (((a_.getD []).length : Nat) : Int)) (Tab.enc h7 a_).len ?_
  refine sim_let (v := bv (decide (w9 < (((a_.getD []).length : Nat) : Int)))) (aBin_lss _ _) ?_
  refine sim_cond (fun c14 => ?_) (fun c14 => ?_)
  · refine sim_get (Tab.enc h7 a_) (fun m16 a15 hi17 hm18 => ?_)
    refine sim_let (v := AV.agg [sv a15.first, sv a15.second, iv a15.cost]) ((Tab.enc h7 a_).ld hm18 true 3 0) ?_
    refine sim_callV1 (t := (fun b : Bigram => b)) he_laws_toBigram (snapD_nr _ a15 rfl) (fun c19 => ?_)
    refine sim_get (O8.tab (A := Bigram) (s := w6) 0 rfl) (fun m21 a20 hi22 hm23 => ?_)
    refine sim_set (A := Bigram) O8 0 c19 rfl hi22 hm23 rfl (by simp) (by first | rfl | simp) (by first | rfl | simp [splice]) (fun h24 O25 => ?_)
    replace O25 : Hold B h24 [(x1, obS ((setS w6 w9 c19) : Sl Bigram))] := O25
    refine sim_let (v := iv (wr (w9 + 1))) (aBin_add _ _) ?_
    exact sim_ret ⟨rfl, rfl, O25⟩
  · exact sim_ret ⟨nofun, _, _, rfl, O8⟩
theorem ts_laws_toBigramS (env : Nat → Contract) (he_laws_toBigram : env n_laws_toBigram = .pure (T1 (fun b : Bigram => b))) (a_ : Sl Bigram) : Sim (denFn Tryd.prog env n_laws_toBigramS [Sl.enc a_] []) (t_laws_toBigramS a_) fun c p => release p.2 depth p.1 = some ((fun c : (Sl Bigram) => rS c) c) := by
  have O := Hold.nil []
  generalize hB : (⟨[], []⟩ : Base) = B at O
  clear hB
  rw [e_laws_toBigramS]
  unfold t_laws_toBigramS
  refine sim_let (v := iv (((a_.getD []).length : Nat) : Int)) (Tab.enc [] a_).len ?_
  refine sim_make (A := Bigram) O (⟨(⟨#[]⟩ : ByteArray), (⟨#[]⟩ : ByteArray), 0⟩ : Bigram) rfl (by decide) (fun l5 x1 h2 O3 => ?_)
  replace O3 : Hold B h2 [(x1, obS ((some l5) : Sl Bigram))] := O3
  refine sim_bind ((tl0_laws_toBigramS env he_laws_toBigram a_ x1) ⟨rfl, O3⟩) (fun qq29 r hq => ?_)
  revert hq
  revert qq29
  intro q12 hq
  obtain ⟨q13, h10, rfl, O11⟩ := hq
  rw [e_lk0x0_laws_toBigramS]
  exact sim_ret (O11.rel (A := Bigram) (s := q12) 0 rfl)
theorem tt_laws_toBigramS : PureOK Tryd.prog n_laws_toBigramS (C1 (fun c : (Sl Bigram) => rS c) t_laws_toBigramS) := pureC1 (Econs ok_laws_toBigram E0) mixed hb_laws_toBigramS fun a_ => ts_laws_toBigramS _ (by simp [envL]) a_

def t_laws_toModel (a_ : Model) : Option Model :=
  obind (t_laws_toBigramS a_.bigrams) fun c15 =>
  some (⟨a_.default, c15⟩ : Model)

theorem ts_laws_toModel (env : Nat → Contract) (he_laws_toBigramS : env n_laws_toBigramS = .pure (C1 (fun c : (Sl Bigram) => rS c) t_laws_toBigramS)) (a_ : Model) : Sim (denFn Tryd.prog env n_laws_toModel [AV.agg [iv a_.default, Sl.enc a_.bigrams]] []) (t_laws_toModel a_) fun c p => release p.2 depth p.1 = some ((fun c : Model => AV.agg [iv c.default, rS c.bigrams]) c) := by
  have O := Hold.nil []
  generalize hB : (⟨[], []⟩ : Base) = B at O
  clear hB
  rw [e_laws_toModel]
  unfold t_laws_toModel
  refine sim_box O (cs := [iv a_.default, Sl.enc a_.bigrams]) (by first | rfl | simp) (fun o1 h2 O3 => ?_)
  replace O3 : Hold B h2 [(AV.ptr o1 1 0 0, .pt 2 [iv a_.default, Sl.enc a_.bigrams])] := O3
  refine sim_box O3 (cs := [iv 0, nilS]) (by first | rfl | simp) (fun o5 h6 O7 => ?_)
  replace O7 : Hold B h6 [(AV.ptr o1 1 0 0, .pt 2 [iv a_.default, Sl.enc a_.bigrams]), (AV.ptr o5 1 0 0, .pt 2 [iv 0, nilS])] := O7
  refine sim_box O7 (cs := [iv 0, nilS]) (by first | rfl | simp) (fun o9 h10 O11 => ?_)
  replace O11 : Hold B h10 [(AV.ptr o1 1 0 0, .pt 2 [iv a_.default, Sl.enc a_.bigrams]), (AV.ptr o5 1 0 0, .pt 2 [iv 0, nilS]), (AV.ptr o9 1 0 0, .pt 2 [iv 0, nilS])] := O11
  refine sim_let (v := AV.ptr o1 1 0 0) rfl ?_
  refine sim_let (v := iv a_.default) (O11.ld 0 rfl false 1 0) ?_
  refine sim_let (v := AV.ptr o9 1 0 0) rfl ?_
  refine sim_store O11 2 (cs' := [iv a_.default, nilS]) rfl (by first | rfl | simp) (by simp) (by first | rfl | simp) (by first | rfl | simp [splice]) (fun h13 O14 => ?_)
  replace O14 : Hold B h13 [(AV.ptr o1 1 0 0, .pt 2 [iv a_.default, Sl.enc a_.bigrams]), (AV.ptr o5 1 0 0, .pt 2 [iv 0, nilS]), (AV.ptr o9 1 0 0, .pt 2 [iv a_.default, nilS])] := O14
  refine sim_let (v := AV.ptr o1 1 0 1) rfl ?_
  refine sim_let (v := Sl.enc a_.bigrams) (O14.ld 0 rfl false 1 1) ?_
  refine sim_call1 he_laws_toBigramS (snapD_enc _ _) (fun c15 => ?_)
  refine sim_hand (A := Bigram) O14 (fun x17 h18 O19 => ?_)
  replace O19 : Hold B h18 [(AV.ptr o1 1 0 0, .pt 2 [iv a_.default, Sl.enc a_.bigrams]), (AV.ptr o5 1 0 0, .pt 2 [iv 0, nilS]), (AV.ptr o9 1 0 0, .pt 2 [iv a_.default, nilS]), (x17, obS (c15 : Sl Bigram))] := O19
  refine sim_let (v := AV.ptr o9 1 0 1) rfl ?_
  refine sim_store O19 2 (cs' := [iv a_.default, x17]) rfl (by first | rfl | simp [(O19.one (A := Bigram) (s := c15) 3 rfl).1, (O19.one (A := Bigram) (s := c15) 3 rfl).2]) (by simp) (by first | rfl | simp [(O19.one (A := Bigram) (s := c15) 3 rfl).1, (O19.one (A := Bigram) (s := c15) 3 rfl).2]) (by first | rfl | simp [splice, (O19.one (A := Bigram) (s := c15) 3 rfl).1, (O19.one (A := Bigram) (s := c15) 3 rfl).2]) (fun h20 O21 => ?_)
  replace O21 : Hold B h20 [(AV.ptr o1 1 0 0, .pt 2 [iv a_.default, Sl.enc a_.bigrams]), (AV.ptr o5 1 0 0, .pt 2 [iv 0, nilS]), (AV.ptr o9 1 0 0, .pt 2 [iv a_.default, x17]), (x17, obS (c15 : Sl Bigram))] := O21
  refine sim_let (v := AV.agg [iv a_.default, x17]) (O21.ld 2 rfl true 2 0) ?_
  refine sim_store O21 1 (cs' := [iv a_.default, x17]) rfl (by first | rfl | simp [(O21.one (A := Bigram) (s := c15) 3 rfl).1, (O21.one (A := Bigram) (s := c15) 3 rfl).2]) (by simp) (by first | rfl | simp [(O21.one (A := Bigram) (s := c15) 3 rfl).1, (O21.one (A := Bigram) (s := c15) 3 rfl).2]) (by first | rfl | simp [splice, (O21.one (A := Bigram) (s := c15) 3 rfl).1, (O21.one (A := Bigram) (s := c15) 3 rfl).2]) (fun h22 O23 => ?_)
  replace O23 : Hold B h22 [(AV.ptr o1 1 0 0, .pt 2 [iv a_.default, Sl.enc a_.bigrams]), (AV.ptr o5 1 0 0, .pt 2 [iv a_.default, x17]), (AV.ptr o9 1 0 0, .pt 2 [iv a_.default, x17]), (x17, obS (c15 : Sl Bigram))] := O23
  refine sim_retL (resL_c (v := AV.agg [iv a_.default, x17]) (O23.ld 1 rfl true 2 0) (resL_nil _)) ?_
  dsimp only [pack]
  have O24 : Hold B h22 [(x17, obS (c15 : Sl Bigram))] := O23.sel [3] (by decide) rfl
  exact sim_ret (release_of (by simp only [ids_tup, ids_aggD, ids_agg, ids_iv, ids_bv, ids_sv, ids_bt, ids_nilS, ids_enc, O24.idsD (A := Bigram) (s := c15) 0 rfl, List.map_append, List.map_nil, List.flatMap_cons, List.flatMap_nil, List.append_nil, List.nil_append]; simpa only [List.flatMap_cons, List.flatMap_nil, List.append_nil, List.nil_append] using O24.nd2) (by simp only [rel_tup, rel_aggD, rel_agg, rel_iv, rel_bv, rel_sv, rel_bt, rel_nilS, rel_enc, O24.relD (A := Bigram) (s := c15) 0 rfl, omapc, omapn, obind_sm] <;> rfl))
theorem tt_laws_toModel : PureOK Tryd.prog n_laws_toModel (C1 (fun c : Model => AV.agg [iv c.default, rS c.bigrams]) t_laws_toModel) := pureC1 (Econs tt_laws_toBigramS E0) mixed hb_laws_toModel fun a_ => ts_laws_toModel _ (by simp [envL]) a_

def s0_spec_IsWord (s_ : ByteArray) : Int → Option (Sum Int (Sum Unit Bool)) := fun w3 =>
  bif decide (w3 < (s_.size : Int)) then
    obind (getB s_ w3) fun b14 =>
    obind (some (isLow b14)) fun c15 =>
    bif !c15 then
      some (.inr (.inr false))
    else
      some (.inl (wr (w3 + 1)))
  else
    some (.inr (.inl ()))
def t_spec_IsWord (s_ : ByteArray) : Option Bool :=
  obind (loopT (s0_spec_IsWord s_) 0) fun qq21 => match qq21 with
  | (.inl _) =>
      obind (some (within (s_.size : Int) 1 10)) fun c8 =>
      some c8
  | (.inr q11) =>
      some q11

theorem tl0_spec_IsWord (env : Nat → Contract) {B : Base} (he_spec_l00In : env n_spec_l00In = .pure (T3 within)) (he_spec_l01Small : env n_spec_l01Small = .pure (T1 isLow)) (s_ : ByteArray)  {st : Int} {tm : TM} {h : Heap} (R : (fun (st : Int) tm h1 => match st with | w3 => tm = [sv s_, und, AV.top, iv w3, AV.top, AV.top, AV.top, AV.top, AV.top, AV.top, AV.top, AV.top, AV.top, AV.top, AV.top, und, und, und] ∧ Hold B h1 []) st tm h) : Sim (loopP hm0_spec_IsWord xm0_spec_IsWord (lb0_spec_IsWord env) tm h) (loopT (s0_spec_IsWord s_) st) (fun (q : Sum Unit Bool) (r : Res) => match q with | .inl _ => ∃ (q7 : Int) (z6 : AV) (h4 : Heap), r = (.exit 0, [sv s_, und, z6, iv q7, AV.top, AV.top, AV.top, AV.top, AV.top, AV.top, AV.top, AV.top, AV.top, AV.top, AV.top, und, und, und], h4) ∧ Hold B h4 [] | .inr q11 => ∃ (q12 : Int) (h9 : Heap), r = (.ret, [sv s_, und, bv q11, iv q12, AV.top, AV.top, AV.top, AV.top, AV.top, AV.top, AV.top, AV.top, AV.top, AV.top, AV.top, und, und, und], h9) ∧ Hold B h9 []) := by
  refine loop_sim (Rel := fun (st : Int) tm h1 => match st with | w3 => tm = [sv s_, und, AV.top, iv w3, AV.top, AV.top, AV.top, AV.top, AV.top, AV.top, AV.top, AV.top, AV.top, AV.top, AV.top, und, und, und] ∧ Hold B h1 []) (fun w3 tm h1 R => ?_) R
  obtain ⟨rfl, O2⟩ := R
  rw [e_lb0_spec_IsWord]
  unfold s0_spec_IsWord
  dsimp only
  refine sim_let (v := iv (s_.size : Int)) rfl ?_
  refine sim_let (v := bv (decide (w3 < (s_.size : Int)))) (aBin_lss _ _) ?_
  refine sim_cond (fun c13 => ?_) (fun c13 => ?_)
  · refine sim_getB (fun b14 => ?_)
    refine sim_callV1 (t := isLow) he_spec_l01Small (snapD_byte _ _) (fun c15 => ?_)
    refine sim_let (v := bv (!c15)) (aUn_not _) ?_
    refine sim_cond (fun c16 => ?_) (fun c16 => ?_)
    · exact sim_ret ⟨nofun, _, _, rfl, O2⟩
    · refine sim_let (v := iv (wr (w3 + 1))) (aBin_add _ _) ?_
      exact sim_ret ⟨rfl, rfl, O2⟩
  · exact sim_ret ⟨nofun, _, _, _, rfl, O2⟩
theorem ts_spec_IsWord (env : Nat → Contract) (he_spec_l00In : env n_spec_l00In = .pure (T3 within)) (he_spec_l01Small : env n_spec_l01Small = .pure (T1 isLow)) (s_ : ByteArray) : Sim (denFn Tryd.prog env n_spec_IsWord [sv s_] []) (t_spec_IsWord s_) fun c p => release p.2 depth p.1 = some ((fun c : Bool => enc c) c) := by
  have O := Hold.nil []
  generalize hB : (⟨[], []⟩ : Base) = B at O
  clear hB
  rw [e_spec_IsWord]
  unfold t_spec_IsWord
  refine sim_bind ((tl0_spec_IsWord env he_spec_l00In he_spec_l01Small s_) ⟨rfl, O⟩) (fun qq21 r hq => ?_)
  rcases qq21 with _ | q11
  · obtain ⟨q7, z6, h4, rfl, O5⟩ := hq
    rw [e_lk0x0_spec_IsWord]
    refine sim_let (v := iv (s_.size : Int)) rfl ?_
    refine sim_callV3 (t := within) he_spec_l00In (snapD_int _ _) (snapD_int _ _) (snapD_int _ _) (fun c8 => ?_)
    exact sim_ret (release_plain (by rfl) _)
  · obtain ⟨q12, h9, rfl, O10⟩ := hq
    rw [e_lk0r_spec_IsWord]
    exact sim_ret (release_plain (by rfl) _)
theorem tt_spec_IsWord : PureOK Tryd.prog n_spec_IsWord (C1 (fun c : Bool => enc c) t_spec_IsWord) := pureC1 (Econs ok_spec_l00In (Econs ok_spec_l01Small E0)) mixed hb_spec_IsWord fun s_ => ts_spec_IsWord _ (by simp [envL]) (by simp [envL]) s_

def t_spec_l18First (s_ : ByteArray) : Option Bool :=
  obind (bif decide (s_ = (⟨#[]⟩ : ByteArray)) then some false else (obind (t_spec_IsWord s_) fun c2 => some c2)) fun c3 =>
  some (bif decide (s_ = (⟨#[]⟩ : ByteArray)) then true else c3)

theorem ts_spec_l18First (env : Nat → Contract) (he_spec_IsWord : env n_spec_IsWord = .pure (C1 (fun c : Bool => enc c) t_spec_IsWord)) (s_ : ByteArray) : Sim (denFn Tryd.prog env n_spec_l18First [sv s_] []) (t_spec_l18First s_) fun c p => release p.2 depth p.1 = some ((fun c : Bool => enc c) c) := by
  have O := Hold.nil []
  generalize hB : (⟨[], []⟩ : Base) = B at O
  clear hB
  rw [e_spec_l18First]
  unfold t_spec_l18First
  refine sim_let (v := bv (decide (s_ = (⟨#[]⟩ : ByteArray)))) (aCmp_eqS _ _) ?_
  refine sim_guardF (e := bv) (fun hb1 => ?_) (fun c3 => ?_)
  · refine sim_call1 he_spec_IsWord (snapD_str _ _) (fun c2 => ?_)
    refine sim_let2 (hand_plain (by rfl) _ _) ?_
    exact sim_ret rfl
  · refine sim_let (v := bv (bif decide (s_ = (⟨#[]⟩ : ByteArray)) then true else c3)) (pick_b' _ _ _) ?_
    exact sim_ret (release_plain (by rfl) _)
theorem tt_spec_l18First : PureOK Tryd.prog n_spec_l18First (C1 (fun c : Bool => enc c) t_spec_l18First) := pureC1 (Econs tt_spec_IsWord E0) mixed hb_spec_l18First fun s_ => ts_spec_l18First _ (by simp [envL]) s_

def t_spec_l18Bigram (b_ : Bigram) : Option Bool :=
  obind (t_spec_l18First b_.first) fun c1 =>
  obind (bif c1 then (obind (t_spec_IsWord b_.second) fun c3 => some c3) else some false) fun c4 =>
  obind (bif (bif c1 then c4 else false) then (obind (some (within b_.cost 0 1000000)) fun c6 => some c6) else some false) fun c7 =>
  some (bif (bif c1 then c4 else false) then c7 else false)
def tp_spec_l18Bigram (b_p : Pt Bigram) : Option Bool := obind b_p.get fun b_ => t_spec_l18Bigram b_

theorem ts_spec_l18Bigram (env : Nat → Contract) (he_spec_IsWord : env n_spec_IsWord = .pure (C1 (fun c : Bool => enc c) t_spec_IsWord)) (he_spec_l00In : env n_spec_l00In = .pure (T3 within)) (he_spec_l18First : env n_spec_l18First = .pure (C1 (fun c : Bool => enc c) t_spec_l18First)) (b_ : Bigram) {b_p : Pt Bigram} (hp_b_ : b_p.get = some b_) : Sim (denFn Tryd.prog env n_spec_l18Bigram [AV.fptr (Row.w Bigram) (b_p.tab.map Row.cells) b_p.i 0] []) (t_spec_l18Bigram b_) fun c p => release p.2 depth p.1 = some ((fun c : Bool => enc c) c) := by
  have O := Hold.nil []
  generalize hB : (⟨[], []⟩ : Base) = B at O
  clear hB
  rw [e_spec_l18Bigram]
  unfold t_spec_l18Bigram
  refine sim_let (v := AV.fptr (Row.w Bigram) (b_p.tab.map Row.cells) b_p.i 0) rfl ?_
  refine sim_let (v := AV.fptr (Row.w Bigram) (b_p.tab.map Row.cells) b_p.i 0) rfl ?_
  refine sim_let (v := sv b_.first) (ld_pt hp_b_ false 1 0) ?_
  refine sim_call1 he_spec_l18First (snapD_str _ _) (fun c1 => ?_)
  refine sim_let2 (hand_plain (by rfl) _ _) ?_
  refine sim_guardT (e := bv) (fun hb2 => ?_) (fun c4 => ?_)
  · refine sim_let (v := AV.fptr (Row.w Bigram) (b_p.tab.map Row.cells) b_p.i 0) rfl ?_
    refine sim_let (v := AV.fptr (Row.w Bigram) (b_p.tab.map Row.cells) b_p.i 1) rfl ?_
    refine sim_let (v := sv b_.second) (ld_pt hp_b_ false 1 1) ?_
    refine sim_call1 he_spec_IsWord (snapD_str _ _) (fun c3 => ?_)
    refine sim_let2 (hand_plain (by rfl) _ _) ?_
    exact sim_ret rfl
  · refine sim_let (v := bv (bif c1 then c4 else false)) (pick_b _ _ _) ?_
    refine sim_guardT (e := bv) (fun hb5 => ?_) (fun c7 => ?_)
    · refine sim_let (v := AV.fptr (Row.w Bigram) (b_p.tab.map Row.cells) b_p.i 0) rfl ?_
      refine sim_let (v := AV.fptr (Row.w Bigram) (b_p.tab.map Row.cells) b_p.i 2) rfl ?_
      refine sim_let (v := iv b_.cost) (ld_pt hp_b_ false 1 2) ?_
      refine sim_callV3 (t := within) he_spec_l00In (snapD_int _ _) (snapD_int _ _) (snapD_int _ _) (fun c6 => ?_)
      exact sim_ret rfl
    · refine sim_let (v := bv (bif (bif c1 then c4 else false) then c7 else false)) (pick_b _ _ _) ?_
      exact sim_ret (release_plain (by rfl) _)
theorem tt_spec_l18Bigram : PureOK Tryd.prog n_spec_l18Bigram (C1 (fun c : Bool => enc c) tp_spec_l18Bigram) := pureC1 (Econs tt_spec_IsWord (Econs ok_spec_l00In (Econs tt_spec_l18First E0))) mixed hb_spec_l18Bigram fun b_p => sim_getP fun b_ hp_b_ => ts_spec_l18Bigram _ (by simp [envL]) (by simp [envL]) (by simp [envL]) b_ hp_b_

def t_spec_l18Before (a_ : Bigram) (b_ : Bigram) : Option Bool :=
  obind (bif ltS a_.first b_.first then some false else (some (decide (a_.first = b_.first)))) fun c2 =>
  obind (bif (!(ltS a_.first b_.first) && c2) then (some (ltS a_.second b_.second)) else some false) fun c13 =>
  obind (bif ltS a_.first b_.first then some false else (some (bif c2 then c13 else false))) fun c23 =>
  some (bif ltS a_.first b_.first then true else c23)
def tp_spec_l18Before (a_p : Pt Bigram) (b_p : Pt Bigram) : Option Bool := obind a_p.get fun a_ => obind b_p.get fun b_ => t_spec_l18Before a_ b_

theorem ts_spec_l18Before (env : Nat → Contract)  (a_ : Bigram) (b_ : Bigram) {a_p : Pt Bigram} (hp_a_ : a_p.get = some a_) {b_p : Pt Bigram} (hp_b_ : b_p.get = some b_) : Sim (denFn Tryd.prog env n_spec_l18Before [AV.fptr (Row.w Bigram) (a_p.tab.map Row.cells) a_p.i 0, AV.fptr (Row.w Bigram) (b_p.tab.map Row.cells) b_p.i 0] []) (t_spec_l18Before a_ b_) fun c p => release p.2 depth p.1 = some ((fun c : Bool => enc c) c) := by
  have O := Hold.nil []
  generalize hB : (⟨[], []⟩ : Base) = B at O
  clear hB
  rw [e_spec_l18Before]
  unfold t_spec_l18Before
  refine sim_let (v := AV.fptr (Row.w Bigram) (a_p.tab.map Row.cells) a_p.i 0) rfl ?_
  refine sim_let (v := AV.fptr (Row.w Bigram) (a_p.tab.map Row.cells) a_p.i 0) rfl ?_
  refine sim_let (v := sv a_.first) (ld_pt hp_a_ false 1 0) ?_
  refine sim_let (v := AV.fptr (Row.w Bigram) (b_p.tab.map Row.cells) b_p.i 0) rfl ?_
  refine sim_let (v := AV.fptr (Row.w Bigram) (b_p.tab.map Row.cells) b_p.i 0) rfl ?_
  refine sim_let (v := sv b_.first) (ld_pt hp_b_ false 1 0) ?_
  refine sim_let (v := bv (ltS a_.first b_.first)) (str_lss _ _) ?_
  refine sim_g10F (e := bv) (fun hb1 => ?_) (fun y3 y4 y5 y6 y7 y8 y9 y10 y11 c2 => ?_)
  · refine sim_o0 ?_
    refine sim_o1 ?_
    refine sim_let (v := AV.fptr (Row.w Bigram) (a_p.tab.map Row.cells) a_p.i 0) rfl ?_
    refine sim_o0 ?_
    refine sim_o1 ?_
    refine sim_let (v := AV.fptr (Row.w Bigram) (a_p.tab.map Row.cells) a_p.i 0) rfl ?_
    refine sim_o0 ?_
    refine sim_o1 ?_
    refine sim_let (v := sv a_.first) (ld_pt hp_a_ false 1 0) ?_
    refine sim_o0 ?_
    refine sim_o0 ?_
    refine sim_o1 ?_
    refine sim_let (v := AV.fptr (Row.w Bigram) (b_p.tab.map Row.cells) b_p.i 0) rfl ?_
    refine sim_o0 ?_
    refine sim_o1 ?_
    refine sim_let (v := AV.fptr (Row.w Bigram) (b_p.tab.map Row.cells) b_p.i 0) rfl ?_
    refine sim_o0 ?_
    refine sim_o1 ?_
    refine sim_let (v := sv b_.first) (ld_pt hp_b_ false 1 0) ?_
    refine sim_o0 ?_
    refine sim_o1 ?_
    refine sim_let (v := bv (decide (a_.first = b_.first))) (aCmp_eqS _ _) ?_
    refine sim_o0 ?_
    exact sim_ret rfl
  · simp only [gv_FT]
    refine sim_g9T (e := bv) (fun hb12 => ?_) (fun y14 y15 y16 y17 y18 y19 y20 y21 c13 => ?_)
    · refine sim_o0 ?_
      refine sim_o1 ?_
      refine sim_let (v := AV.fptr (Row.w Bigram) (a_p.tab.map Row.cells) a_p.i 0) rfl ?_
      refine sim_o0 ?_
      refine sim_o1 ?_
      refine sim_let (v := AV.fptr (Row.w Bigram) (a_p.tab.map Row.cells) a_p.i 1) rfl ?_
      refine sim_o0 ?_
      refine sim_o1 ?_
      refine sim_let (v := sv a_.second) (ld_pt hp_a_ false 1 1) ?_
      refine sim_o0 ?_
      refine sim_o0 ?_
      refine sim_o1 ?_
      refine sim_let (v := AV.fptr (Row.w Bigram) (b_p.tab.map Row.cells) b_p.i 0) rfl ?_
      refine sim_o0 ?_
      refine sim_o1 ?_
      refine sim_let (v := AV.fptr (Row.w Bigram) (b_p.tab.map Row.cells) b_p.i 1) rfl ?_
      refine sim_o0 ?_
      refine sim_o1 ?_
      refine sim_let (v := sv b_.second) (ld_pt hp_b_ false 1 1) ?_
      refine sim_o0 ?_
      refine sim_let (v := bv (ltS a_.second b_.second)) (str_lss _ _) ?_
      exact sim_ret rfl
    · refine sim_guardF (e := bv) (fun hb22 => ?_) (fun c23 => ?_)
      · simp only [hb22, cond_true, cond_false, Bool.not_true, Bool.not_false, Bool.true_and, Bool.and_true, Bool.false_and, Bool.not_not]
        refine sim_let (v := bv (bif c2 then c13 else false)) (pick_b _ _ _) ?_
        exact sim_ret rfl
      · refine sim_let (v := bv (bif ltS a_.first b_.first then true else c23)) (pick_b' _ _ _) ?_
        exact sim_ret (release_plain (by rfl) _)
theorem tt_spec_l18Before : PureOK Tryd.prog n_spec_l18Before (C2 (fun c : Bool => enc c) tp_spec_l18Before) := pureC2 E0 mixed hb_spec_l18Before fun a_p b_p => sim_getP fun a_ hp_a_ => sim_getP fun b_ hp_b_ => ts_spec_l18Before _  a_ b_ hp_a_ hp_b_

def s0_spec_l18Ok (m_ : Model) : Int → Option (Sum Int (Sum Unit Bool)) := fun w3 =>
  bif decide (w3 < (((m_.bigrams.getD []).length : Nat) : Int)) then
    obind (getI (m_.bigrams.getD []) w3) fun a16 =>
    obind (t_spec_l18Bigram a16) fun c20 =>
    obind (bif !c20 then some false else (some (decide (0 < w3)))) fun c22 =>
    obind (bif (!(!c20) && c22) then (obind (getI (m_.bigrams.getD []) (wr (w3 - 1))) fun a26 => obind (getI (m_.bigrams.getD []) w3) fun a30 => obind (t_spec_l18Before a26 a30) fun c34 => some (!c34)) else some false) fun c35 =>
    obind (bif !c20 then some false else (some (bif c22 then c35 else false))) fun c51 =>
    bif (bif !c20 then true else c51) then
      some (.inr (.inr false))
    else
      some (.inl (wr (w3 + 1)))
  else
    some (.inr (.inl ()))
def t_spec_l18Ok (m_ : Model) : Option Bool :=
  obind (loopT (s0_spec_l18Ok m_) 0) fun qq57 => match qq57 with
  | (.inl _) =>
      obind (some (within m_.default 0 1000000)) fun c8 =>
      obind (bif c8 then (some (decide ((((m_.bigrams.getD []).length : Nat) : Int) ≤ 60))) else some false) fun c10 =>
      some (bif c8 then c10 else false)
  | (.inr q13) =>
      some q13
def tp_spec_l18Ok (m_p : Pt Model) : Option Bool := obind m_p.get fun m_ => t_spec_l18Ok m_

theorem tl0_spec_l18Ok (env : Nat → Contract) {B : Base} (he_spec_l00In : env n_spec_l00In = .pure (T3 within)) (he_spec_l18Before : env n_spec_l18Before = .pure (C2 (fun c : Bool => enc c) tp_spec_l18Before)) (he_spec_l18Bigram : env n_spec_l18Bigram = .pure (C1 (fun c : Bool => enc c) tp_spec_l18Bigram)) (m_ : Model) (m_p : Pt Model) (hp_m_ : m_p.get = some m_)  {st : Int} {tm : TM} {h : Heap} (R : (fun (st : Int) tm h1 => match st with | w3 => tm = [AV.fptr (Row.w Model) (m_p.tab.map Row.cells) m_p.i 0, und, AV.top, iv w3, AV.top, AV.top, AV.top, AV.top, AV.top, AV.top, AV.top, AV.top, AV.top, AV.top, AV.top, AV.top, AV.top, AV.top, AV.top, AV.top, AV.top, AV.top, AV.top, AV.top, AV.top, AV.top, AV.top, AV.top, AV.top, AV.top, AV.top, AV.top, AV.top, AV.top, AV.top, AV.top, AV.top, AV.top, AV.top, AV.top, AV.top, AV.top, und, und, und, und, und, und, und, und, und, und, und, und, und] ∧ Hold B h1 []) st tm h) : Sim (loopP hm0_spec_l18Ok xm0_spec_l18Ok (lb0_spec_l18Ok env) tm h) (loopT (s0_spec_l18Ok m_) st) (fun (q : Sum Unit Bool) (r : Res) => match q with | .inl _ => ∃ (q7 : Int) (z6 : AV) (h4 : Heap), r = (.exit 0, [AV.fptr (Row.w Model) (m_p.tab.map Row.cells) m_p.i 0, und, z6, iv q7, AV.top, AV.top, AV.top, AV.top, AV.top, AV.top, AV.top, AV.top, AV.top, AV.top, AV.top, AV.top, AV.top, AV.top, AV.top, AV.top, AV.top, AV.top, AV.top, AV.top, AV.top, AV.top, AV.top, AV.top, AV.top, AV.top, AV.top, AV.top, AV.top, AV.top, AV.top, AV.top, AV.top, AV.top, AV.top, AV.top, AV.top, AV.top, und, und, und, und, und, und, und, und, und, und, und, und, und], h4) ∧ Hold B h4 [] | .inr q13 => ∃ (q14 : Int) (h11 : Heap), r = (.ret, [AV.fptr (Row.w Model) (m_p.tab.map Row.cells) m_p.i 0, und, bv q13, iv q14, AV.top, AV.top, AV.top, AV.top, AV.top, AV.top, AV.top, AV.top, AV.top, AV.top, AV.top, AV.top, AV.top, AV.top, AV.top, AV.top, AV.top, AV.top, AV.top, AV.top, AV.top, AV.top, AV.top, AV.top, AV.top, AV.top, AV.top, AV.top, AV.top, AV.top, AV.top, AV.top, AV.top, AV.top, AV.top, AV.top, AV.top, AV.top, und, und, und, und, und, und, und, und, und, und, und, und, und], h11) ∧ Hold B h11 []) := by
  refine loop_sim (Rel := fun (st : Int) tm h1 => match st with | w3 => tm = [AV.fptr (Row.w Model) (m_p.tab.map Row.cells) m_p.i 0, und, AV.top, iv w3, AV.top, AV.top, AV.top, AV.top, AV.top, AV.top, AV.top, AV.top, AV.top, AV.top, AV.top, AV.top, AV.top, AV.top, AV.top, AV.top, AV.top, AV.top, AV.top, AV.top, AV.top, AV.top, AV.top, AV.top, AV.top, AV.top, AV.top, AV.top, AV.top, AV.top, AV.top, AV.top, AV.top, AV.top, AV.top, AV.top, AV.top, AV.top, und, und, und, und, und, und, und, und, und, und, und, und, und] ∧ Hold B h1 []) (fun w3 tm h1 R => ?_) R
  obtain ⟨rfl, O2⟩ := R
  rw [e_lb0_spec_l18Ok]
  unfold s0_spec_l18Ok
  dsimp only
  refine sim_let (v := AV.fptr (Row.w Model) (m_p.tab.map Row.cells) m_p.i 0) rfl ?_
  refine sim_let (v := AV.fptr (Row.w Model) (m_p.tab.map Row.cells) m_p.i 1) rfl ?_
  refine sim_let (v := Sl.enc m_.bigrams) (ld_pt hp_m_ false 1 1) ?_
  refine sim_let (v := iv (((m_.bigrams.getD []).length : Nat) : Int)) (Tab.enc h1 m_.bigrams).len ?_
  refine sim_let (v := bv (decide (w3 < (((m_.bigrams.getD []).length : Nat) : Int)))) (aBin_lss _ _) ?_
  refine sim_cond (fun c15 => ?_) (fun c15 => ?_)
  · refine sim_let (v := AV.fptr (Row.w Model) (m_p.tab.map Row.cells) m_p.i 0) rfl ?_
    refine sim_let (v := AV.fptr (Row.w Model) (m_p.tab.map Row.cells) m_p.i 1) rfl ?_
    refine sim_let (v := Sl.enc m_.bigrams) (ld_pt hp_m_ false 1 1) ?_
    refine sim_get (Tab.enc h1 m_.bigrams) (fun m17 a16 hi18 hm19 => ?_)
    refine sim_eqO (y' := tp_spec_l18Bigram ⟨m_.bigrams.getD [], m17⟩) (by simp only [tp_spec_l18Bigram, get_ptAt hm19, obind_sm]) ?_
    refine sim_callQ1 he_spec_l18Bigram (snapD_elpR _ m_.bigrams hm19) (fun c20 => ?_)
    refine sim_let2 (hand_plain (by rfl) _ _) ?_
    refine sim_let (v := bv (!c20)) (aUn_not _) ?_
    refine sim_g3F (e := bv) (fun hb21 => ?_) (fun y23 y24 c22 => ?_)
    · refine sim_o0 ?_
      refine sim_o1 ?_
      refine sim_let (v := bv (decide (0 < w3))) (aBin_gtr _ _) ?_
      refine sim_o0 ?_
      exact sim_ret rfl
    · simp only [gv_FT]
      refine sim_g15T (e := bv) (fun hb25 => ?_) (fun y36 y37 y38 y39 y40 y41 y42 y43 y44 y45 y46 y47 y48 y49 c35 => ?_)
      · refine sim_o0 ?_
        refine sim_o1 ?_
        refine sim_let (v := AV.fptr (Row.w Model) (m_p.tab.map Row.cells) m_p.i 0) rfl ?_
        refine sim_o0 ?_
        refine sim_o1 ?_
        refine sim_let (v := AV.fptr (Row.w Model) (m_p.tab.map Row.cells) m_p.i 1) rfl ?_
        refine sim_o0 ?_
        refine sim_o1 ?_
        refine sim_let (v := Sl.enc m_.bigrams) (ld_pt hp_m_ false 1 1) ?_
        refine sim_o0 ?_
        refine sim_o0 ?_
        refine sim_o1 ?_
        refine sim_let (v := iv (wr (w3 - 1))) (aBin_sub _ _) ?_
        refine sim_o0 ?_
        refine sim_o1 ?_
        refine sim_get (Tab.enc h1 m_.bigrams) (fun m27 a26 hi28 hm29 => ?_)
        refine sim_o0 ?_
        refine sim_o0 ?_
        refine sim_o1 ?_
        refine sim_let (v := AV.fptr (Row.w Model) (m_p.tab.map Row.cells) m_p.i 0) rfl ?_
        refine sim_o0 ?_
        refine sim_o1 ?_
        refine sim_let (v := AV.fptr (Row.w Model) (m_p.tab.map Row.cells) m_p.i 1) rfl ?_
        refine sim_o0 ?_
        refine sim_o1 ?_
        refine sim_let (v := Sl.enc m_.bigrams) (ld_pt hp_m_ false 1 1) ?_
        refine sim_o0 ?_
        refine sim_o0 ?_
        refine sim_o1 ?_
        refine sim_get (Tab.enc h1 m_.bigrams) (fun m31 a30 hi32 hm33 => ?_)
        refine sim_o0 ?_
        refine sim_o2 ?_
        refine sim_eqO (y' := tp_spec_l18Before ⟨m_.bigrams.getD [], m27⟩ ⟨m_.bigrams.getD [], m31⟩) (by simp only [tp_spec_l18Before, get_ptAt hm29, get_ptAt hm33, obind_sm]) ?_
        refine sim_callQ2 he_spec_l18Before (snapD_elpR _ m_.bigrams hm29) (snapD_elpR _ m_.bigrams hm33) (fun c34 => ?_)
        refine sim_let2 (hand_plain (by rfl) _ _) ?_
        refine sim_o0 ?_
        refine sim_let (v := bv (!c34)) (aUn_not _) ?_
        exact sim_ret rfl
      · refine sim_guardF (e := bv) (fun hb50 => ?_) (fun c51 => ?_)
        · simp only [hb50, cond_true, cond_false, Bool.not_true, Bool.not_false, Bool.true_and, Bool.and_true, Bool.false_and, Bool.not_not]
          refine sim_let (v := bv (bif c22 then c35 else false)) (pick_b _ _ _) ?_
          exact sim_ret rfl
        · refine sim_let (v := bv (bif !c20 then true else c51)) (pick_b' _ _ _) ?_
          refine sim_cond (fun c52 => ?_) (fun c52 => ?_)
          · exact sim_ret ⟨nofun, _, _, rfl, O2⟩
          · refine sim_let (v := iv (wr (w3 + 1))) (aBin_add _ _) ?_
            exact sim_ret ⟨rfl, rfl, O2⟩
  · exact sim_ret ⟨nofun, _, _, _, rfl, O2⟩
theorem ts_spec_l18Ok (env : Nat → Contract) (he_spec_l00In : env n_spec_l00In = .pure (T3 within)) (he_spec_l18Before : env n_spec_l18Before = .pure (C2 (fun c : Bool => enc c) tp_spec_l18Before)) (he_spec_l18Bigram : env n_spec_l18Bigram = .pure (C1 (fun c : Bool => enc c) tp_spec_l18Bigram)) (m_ : Model) {m_p : Pt Model} (hp_m_ : m_p.get = some m_) : Sim (denFn Tryd.prog env n_spec_l18Ok [AV.fptr (Row.w Model) (m_p.tab.map Row.cells) m_p.i 0] []) (t_spec_l18Ok m_) fun c p => release p.2 depth p.1 = some ((fun c : Bool => enc c) c) := by
  have O := Hold.nil []
  generalize hB : (⟨[], []⟩ : Base) = B at O
  clear hB
  rw [e_spec_l18Ok]
  unfold t_spec_l18Ok
  refine sim_bind ((tl0_spec_l18Ok env he_spec_l00In he_spec_l18Before he_spec_l18Bigram m_ m_p hp_m_) ⟨rfl, O⟩) (fun qq57 r hq => ?_)
  rcases qq57 with _ | q13
  · obtain ⟨q7, z6, h4, rfl, O5⟩ := hq
    rw [e_lk0x0_spec_l18Ok]
    refine sim_let (v := AV.fptr (Row.w Model) (m_p.tab.map Row.cells) m_p.i 0) rfl ?_
    refine sim_let (v := AV.fptr (Row.w Model) (m_p.tab.map Row.cells) m_p.i 0) rfl ?_
    refine sim_let (v := iv m_.default) (ld_pt hp_m_ false 1 0) ?_
    refine sim_callV3 (t := within) he_spec_l00In (snapD_int _ _) (snapD_int _ _) (snapD_int _ _) (fun c8 => ?_)
    refine sim_guardT (e := bv) (fun hb9 => ?_) (fun c10 => ?_)
    · refine sim_let (v := AV.fptr (Row.w Model) (m_p.tab.map Row.cells) m_p.i 0) rfl ?_
      refine sim_let (v := AV.fptr (Row.w Model) (m_p.tab.map Row.cells) m_p.i 1) rfl ?_
      refine sim_let (v := Sl.enc m_.bigrams) (ld_pt hp_m_ false 1 1) ?_
      refine sim_let (v := iv (((m_.bigrams.getD []).length : Nat) : Int)) (Tab.enc h4 m_.bigrams).len ?_
      refine sim_let (v := bv (decide ((((m_.bigrams.getD []).length : Nat) : Int) ≤ 60))) (aBin_leq _ _) ?_
      exact sim_ret rfl
    · refine sim_let (v := bv (bif c8 then c10 else false)) (pick_b _ _ _) ?_
      exact sim_ret (release_plain (by rfl) _)
  · obtain ⟨q14, h11, rfl, O12⟩ := hq
    rw [e_lk0r_spec_l18Ok]
    exact sim_ret (release_plain (by rfl) _)
theorem tt_spec_l18Ok : PureOK Tryd.prog n_spec_l18Ok (C1 (fun c : Bool => enc c) tp_spec_l18Ok) := pureC1 (Econs ok_spec_l00In (Econs tt_spec_l18Before (Econs tt_spec_l18Bigram E0))) mixed hb_spec_l18Ok fun m_p => sim_getP fun m_ hp_m_ => ts_spec_l18Ok _ (by simp [envL]) (by simp [envL]) (by simp [envL]) m_ hp_m_

def s0_spec_l01Dec : ((Sl UInt8) × Int) → Option (Sum ((Sl UInt8) × Int) (Sl UInt8)) := fun (w6, w9) =>
  bif !decide (w9 = 0) then
    bif decide ((Int.tmod w9 10) < 0) then
      obind (appO (some ([byteI (wr (48 + (wr (0 - Int.tmod w9 10))))] : List UInt8)) (w6.getD [])) fun _ =>
      some (.inl ((appS (some ([byteI (wr (48 + (wr (0 - Int.tmod w9 10))))] : List UInt8)) (w6.getD [])), wr (Int.tdiv w9 10)))
    else
      obind (appO (some ([byteI (wr (48 + (Int.tmod w9 10)))] : List UInt8)) (w6.getD [])) fun _ =>
      some (.inl ((appS (some ([byteI (wr (48 + (Int.tmod w9 10)))] : List UInt8)) (w6.getD [])), wr (Int.tdiv w9 10)))
  else
    some (.inr w6)
def t_spec_l01Dec (n_ : Int) : Option ByteArray :=
  obind (loopT s0_spec_l01Dec ((some ([] : List UInt8)), n_)) fun q13 =>
  bif decide ((((q13.getD []).length : Nat) : Int) = 0) then
    some (⟨#[48]⟩ : ByteArray)
  else
    bif decide (n_ < 0) then
      obind (catO (⟨#[45]⟩ : ByteArray) (strL (q13.getD []))) fun s18 =>
      some s18
    else
      some (strL (q13.getD []))

theorem tl0_spec_l01Dec (env : Nat → Contract) {B : Base}  (n_ : Int) (x1 : AV)  {st : (Sl UInt8) × Int} {tm : TM} {h : Heap} (R : (fun (st : (Sl UInt8) × Int) tm h7 => match st with | (w6, w9) => ∃ z5, tm = [iv n_, und, sv (⟨#[]⟩ : ByteArray), z5, iv w9, AV.top, x1, iv n_, AV.top, AV.top, AV.top, AV.top, AV.top, AV.top, AV.top, AV.top, AV.top, AV.top, AV.top, AV.top, AV.top, AV.top, AV.top, AV.top, und, und, und, und, und, und, und, und, und, und] ∧ Hold B h7 [(z5, obS (w6 : Sl UInt8))]) st tm h) : Sim (loopP hm0_spec_l01Dec xm0_spec_l01Dec (lb0_spec_l01Dec env) tm h) (loopT s0_spec_l01Dec st) (fun (q : Sl UInt8) (r : Res) => match q with | q13 => ∃ (q14 : Int) (z12 : AV) (z15 : AV) (h10 : Heap), r = (.exit 0, [iv n_, und, sv (⟨#[]⟩ : ByteArray), z12, iv q14, z15, x1, iv n_, AV.top, AV.top, AV.top, AV.top, AV.top, AV.top, AV.top, AV.top, AV.top, AV.top, AV.top, AV.top, AV.top, AV.top, AV.top, AV.top, und, und, und, und, und, und, und, und, und, und], h10) ∧ Hold B h10 [(z12, obS (q13 : Sl UInt8))]) := by
  refine loop_sim (Rel := fun (st : (Sl UInt8) × Int) tm h7 => match st with | (w6, w9) => ∃ z5, tm = [iv n_, und, sv (⟨#[]⟩ : ByteArray), z5, iv w9, AV.top, x1, iv n_, AV.top, AV.top, AV.top, AV.top, AV.top, AV.top, AV.top, AV.top, AV.top, AV.top, AV.top, AV.top, AV.top, AV.top, AV.top, AV.top, und, und, und, und, und, und, und, und, und, und] ∧ Hold B h7 [(z5, obS (w6 : Sl UInt8))]) (fun st tm h7 R => ?_) R
  obtain ⟨w6, w9⟩ := st
  obtain ⟨z5, rfl, O8⟩ := R
  rw [e_lb0_spec_l01Dec]
  unfold s0_spec_l01Dec
  dsimp only
  refine sim_let (v := bv (!decide (w9 = 0))) (aCmp_ne _ _) ?_
  refine sim_cond (fun c19 => ?_) (fun c19 => ?_)
  · refine sim_let (v := iv (Int.tmod w9 10)) (aBin_rem _ _ (by decide)) ?_
    refine sim_let (v := bv (decide ((Int.tmod w9 10) < 0))) (aBin_lss _ _) ?_
    refine sim_cond (fun c20 => ?_) (fun c20 => ?_)
    · refine sim_let (v := iv (wr (0 - Int.tmod w9 10))) (aUn_neg _) ?_
      refine sim_let (v := iv (wr (48 + (wr (0 - Int.tmod w9 10))))) (aBin_add _ _) ?_
      refine sim_let (v := bt (byteI (wr (48 + (wr (0 - Int.tmod w9 10)))))) (conv_u8 _) ?_
      refine sim_build (A := UInt8) O8 ([byteI (wr (48 + (wr (0 - Int.tmod w9 10))))] : List UInt8) rfl (by first | rfl | simp [aFillRows, zrows]) rfl (fun x21 h22 O23 => ?_)
      replace O23 : Hold B h22 [(z5, obS (w6 : Sl UInt8)), (x21, obS ((some ([byteI (wr (48 + (wr (0 - Int.tmod w9 10))))] : List UInt8)) : Sl UInt8))] := O23
      refine sim_append (A := UInt8) (s := (some ([byteI (wr (48 + (wr (0 - Int.tmod w9 10))))] : List UInt8))) O23 1 (w6.getD []) rfl (O23.src (A := UInt8) (s := w6) 0 rfl) (by decide) (fun x26 h27 O28 => ?_)
      replace O28 : Hold B h27 [(z5, obS (w6 : Sl UInt8)), (x26, obS ((appS (some ([byteI (wr (48 + (wr (0 - Int.tmod w9 10))))] : List UInt8)) (w6.getD [])) : Sl UInt8))] := O28
      refine sim_let (v := iv (wr (Int.tdiv w9 10))) (aBin_quo _ _ (by decide)) ?_
      have O30 : Hold B h27 [(x26, obS ((appS (some ([byteI (wr (48 + (wr (0 - Int.tmod w9 10))))] : List UInt8)) (w6.getD [])) : Sl UInt8))] := O28.sel [1] (by decide) rfl
      exact sim_ret ⟨rfl, _, rfl, O30⟩
    · refine sim_let (v := iv (wr (48 + (Int.tmod w9 10)))) (aBin_add _ _) ?_
      refine sim_let (v := bt (byteI (wr (48 + (Int.tmod w9 10))))) (conv_u8 _) ?_
      refine sim_build (A := UInt8) O8 ([byteI (wr (48 + (Int.tmod w9 10)))] : List UInt8) rfl (by first | rfl | simp [aFillRows, zrows]) rfl (fun x31 h32 O33 => ?_)
      replace O33 : Hold B h32 [(z5, obS (w6 : Sl UInt8)), (x31, obS ((some ([byteI (wr (48 + (Int.tmod w9 10)))] : List UInt8)) : Sl UInt8))] := O33
      refine sim_append (A := UInt8) (s := (some ([byteI (wr (48 + (Int.tmod w9 10)))] : List UInt8))) O33 1 (w6.getD []) rfl (O33.src (A := UInt8) (s := w6) 0 rfl) (by decide) (fun x36 h37 O38 => ?_)
      replace O38 : Hold B h37 [(z5, obS (w6 : Sl UInt8)), (x36, obS ((appS (some ([byteI (wr (48 + (Int.tmod w9 10)))] : List UInt8)) (w6.getD [])) : Sl UInt8))] := O38
      refine sim_let (v := iv (wr (Int.tdiv w9 10))) (aBin_quo _ _ (by decide)) ?_
      have O40 : Hold B h37 [(x36, obS ((appS (some ([byteI (wr (48 + (Int.tmod w9 10)))] : List UInt8)) (w6.getD [])) : Sl UInt8))] := O38.sel [1] (by decide) rfl
      exact sim_ret ⟨rfl, _, rfl, O40⟩
  · exact sim_ret ⟨nofun, _, _, _, _, rfl, O8⟩
theorem ts_spec_l01Dec (env : Nat → Contract)  (n_ : Int) : Sim (denFn Tryd.prog env n_spec_l01Dec [iv n_] []) (t_spec_l01Dec n_) fun c p => release p.2 depth p.1 = some ((fun c : ByteArray => enc c) c) := by
  have O := Hold.nil []
  generalize hB : (⟨[], []⟩ : Base) = B at O
  clear hB
  rw [e_spec_l01Dec]
  unfold t_spec_l01Dec
  refine sim_build (A := UInt8) O ([] : List UInt8) rfl (by first | rfl | simp [aFillRows, zrows]) rfl (fun x1 h2 O3 => ?_)
  replace O3 : Hold B h2 [(x1, obS ((some ([] : List UInt8)) : Sl UInt8))] := O3
  refine sim_bind ((tl0_spec_l01Dec env n_ x1) ⟨_, rfl, O3⟩) (fun qq43 r hq => ?_)
  revert hq
  revert qq43
  intro q13 hq
  obtain ⟨q14, z12, z15, h10, rfl, O11⟩ := hq
  rw [e_lk0x0_spec_l01Dec]
  refine sim_let (v := iv (((q13.getD []).length : Nat) : Int)) (O11.tab (A := UInt8) (s := q13) 0 rfl).len ?_
  refine sim_let (v := bv (decide ((((q13.getD []).length : Nat) : Int) = 0))) (aCmp_eq _ _) ?_
  refine sim_cond (fun c16 => ?_) (fun c16 => ?_)
  · exact sim_ret (release_plain (by rfl) _)
  · refine sim_let (v := bv (decide (n_ < 0))) (aBin_lss _ _) ?_
    refine sim_cond (fun c17 => ?_) (fun c17 => ?_)
    · refine sim_let (v := sv (strL (q13.getD []))) (conv_str (s := q13) (O11.src (A := UInt8) (s := q13) 0 rfl)) ?_
      refine sim_cat (fun s18 => ?_)
      exact sim_ret (release_plain (by rfl) _)
    · refine sim_let (v := sv (strL (q13.getD []))) (conv_str (s := q13) (O11.src (A := UInt8) (s := q13) 0 rfl)) ?_
      exact sim_ret (release_plain (by rfl) _)
theorem tt_spec_l01Dec : PureOK Tryd.prog n_spec_l01Dec (C1 (fun c : ByteArray => enc c) t_spec_l01Dec) := pureC1 E0 mixed hb_spec_l01Dec fun n_ => ts_spec_l01Dec _  n_

def s0_spec_l18Text (m_ : Model) : (ByteArray × Int) → Option (Sum (ByteArray × Int) ByteArray) := fun (w6, w7) =>
  bif decide (w7 < (((m_.bigrams.getD []).length : Nat) : Int)) then
    obind (getI (m_.bigrams.getD []) w7) fun a15 =>
    bif decide (a15.first = (⟨#[]⟩ : ByteArray)) then
      obind (catO (⟨#[45]⟩ : ByteArray) (⟨#[32]⟩ : ByteArray)) fun s20 =>
      obind (catO s20 a15.second) fun s21 =>
      obind (catO s21 (⟨#[32]⟩ : ByteArray)) fun s22 =>
      obind (t_spec_l01Dec a15.cost) fun c23 =>
      obind (catO s22 c23) fun s24 =>
      obind (catO s24 (⟨#[10]⟩ : ByteArray)) fun s25 =>
      obind (catO w6 s25) fun s26 =>
      some (.inl (s26, wr (w7 + 1)))
    else
      obind (catO a15.first (⟨#[32]⟩ : ByteArray)) fun s28 =>
      obind (catO s28 a15.second) fun s29 =>
      obind (catO s29 (⟨#[32]⟩ : ByteArray)) fun s30 =>
      obind (t_spec_l01Dec a15.cost) fun c31 =>
      obind (catO s30 c31) fun s32 =>
      obind (catO s32 (⟨#[10]⟩ : ByteArray)) fun s33 =>
      obind (catO w6 s33) fun s34 =>
      some (.inl (s34, wr (w7 + 1)))
  else
    some (.inr w6)
def t_spec_l18Text (m_ : Model) : Option ByteArray :=
  obind (t_spec_l01Dec m_.default) fun c1 =>
  obind (catO (⟨#[100, 101, 102, 97, 117, 108, 116, 32]⟩ : ByteArray) c1) fun s2 =>
  obind (catO s2 (⟨#[10]⟩ : ByteArray)) fun s3 =>
  obind (loopT (s0_spec_l18Text m_) (s3, 0)) fun q10 =>
  some q10
def tp_spec_l18Text (m_p : Pt Model) : Option ByteArray := obind m_p.get fun m_ => t_spec_l18Text m_

theorem tl0_spec_l18Text (env : Nat → Contract) {B : Base} (he_spec_l01Dec : env n_spec_l01Dec = .pure (C1 (fun c : ByteArray => enc c) t_spec_l01Dec)) (m_ : Model) (m_p : Pt Model) (hp_m_ : m_p.get = some m_) (c1 : ByteArray) (s2 : ByteArray) (s3 : ByteArray)  {st : ByteArray × Int} {tm : TM} {h : Heap} (R : (fun (st : ByteArray × Int) tm h4 => match st with | (w6, w7) => tm = [AV.fptr (Row.w Model) (m_p.tab.map Row.cells) m_p.i 0, und, sv (⟨#[]⟩ : ByteArray), sv w6, iv w7, AV.top, AV.top, AV.fptr (Row.w Model) (m_p.tab.map Row.cells) m_p.i 0, AV.fptr (Row.w Model) (m_p.tab.map Row.cells) m_p.i 0, AV.fptr (Row.w Model) (m_p.tab.map Row.cells) m_p.i 0, iv m_.default, sv c1, sv s2, sv s3, AV.top, AV.top, AV.top, AV.top, AV.top, AV.top, AV.top, AV.top, AV.top, AV.top, AV.top, AV.top, AV.top, AV.top, AV.top, AV.top, AV.top, AV.top, AV.top, AV.top, AV.top, AV.top, AV.top, AV.top, AV.top, AV.top, AV.top, AV.top, AV.top, AV.top, AV.top, AV.top, AV.top, AV.top, AV.top, AV.top, AV.top, AV.top, und] ∧ Hold B h4 []) st tm h) : Sim (loopP hm0_spec_l18Text xm0_spec_l18Text (lb0_spec_l18Text env) tm h) (loopT (s0_spec_l18Text m_) st) (fun (q : ByteArray) (r : Res) => match q with | q10 => ∃ (q11 : Int) (z12 : AV) (z13 : AV) (h8 : Heap), r = (.exit 0, [AV.fptr (Row.w Model) (m_p.tab.map Row.cells) m_p.i 0, und, sv (⟨#[]⟩ : ByteArray), sv q10, iv q11, z12, z13, AV.fptr (Row.w Model) (m_p.tab.map Row.cells) m_p.i 0, AV.fptr (Row.w Model) (m_p.tab.map Row.cells) m_p.i 0, AV.fptr (Row.w Model) (m_p.tab.map Row.cells) m_p.i 0, iv m_.default, sv c1, sv s2, sv s3, AV.top, AV.top, AV.top, AV.top, AV.top, AV.top, AV.top, AV.top, AV.top, AV.top, AV.top, AV.top, AV.top, AV.top, AV.top, AV.top, AV.top, AV.top, AV.top, AV.top, AV.top, AV.top, AV.top, AV.top, AV.top, AV.top, AV.top, AV.top, AV.top, AV.top, AV.top, AV.top, AV.top, AV.top, AV.top, AV.top, AV.top, AV.top, und], h8) ∧ Hold B h8 []) := by
  refine loop_sim (Rel := fun (st : ByteArray × Int) tm h4 => match st with | (w6, w7) => tm = [AV.fptr (Row.w Model) (m_p.tab.map Row.cells) m_p.i 0, und, sv (⟨#[]⟩ : ByteArray), sv w6, iv w7, AV.top, AV.top, AV.fptr (Row.w Model) (m_p.tab.map Row.cells) m_p.i 0, AV.fptr (Row.w Model) (m_p.tab.map Row.cells) m_p.i 0, AV.fptr (Row.w Model) (m_p.tab.map Row.cells) m_p.i 0, iv m_.default, sv c1, sv s2, sv s3, AV.top, AV.top, AV.top, AV.top, AV.top, AV.top, AV.top, AV.top, AV.top, AV.top, AV.top, AV.top, AV.top, AV.top, AV.top, AV.top, AV.top, AV.top, AV.top, AV.top, AV.top, AV.top, AV.top, AV.top, AV.top, AV.top, AV.top, AV.top, AV.top, AV.top, AV.top, AV.top, AV.top, AV.top, AV.top, AV.top, AV.top, AV.top, und] ∧ Hold B h4 []) (fun st tm h4 R => ?_) R
  obtain ⟨w6, w7⟩ := st
  obtain ⟨rfl, O5⟩ := R
  rw [e_lb0_spec_l18Text]
  unfold s0_spec_l18Text
  dsimp only
  refine sim_let (v := AV.fptr (Row.w Model) (m_p.tab.map Row.cells) m_p.i 0) rfl ?_
  refine sim_let (v := AV.fptr (Row.w Model) (m_p.tab.map Row.cells) m_p.i 1) rfl ?_
  refine sim_let (v := Sl.enc m_.bigrams) (ld_pt hp_m_ false 1 1) ?_
  refine sim_let (v := iv (((m_.bigrams.getD []).length : Nat) : Int)) (Tab.enc h4 m_.bigrams).len ?_
  refine sim_let (v := bv (decide (w7 < (((m_.bigrams.getD []).length : Nat) : Int)))) (aBin_lss _ _) ?_
  refine sim_cond (fun c14 => ?_) (fun c14 => ?_)
  · refine sim_let (v := AV.fptr (Row.w Model) (m_p.tab.map Row.cells) m_p.i 0) rfl ?_
    refine sim_let (v := AV.fptr (Row.w Model) (m_p.tab.map Row.cells) m_p.i 1) rfl ?_
    refine sim_let (v := Sl.enc m_.bigrams) (ld_pt hp_m_ false 1 1) ?_
    refine sim_get (Tab.enc h4 m_.bigrams) (fun m16 a15 hi17 hm18 => ?_)
    refine sim_let (v := elp (Sl.enc m_.bigrams) m16 0) (nc_elp _ _ _) ?_
    refine sim_let (v := elp (Sl.enc m_.bigrams) m16 0) ((Tab.enc h4 m_.bigrams).fld _ _ _) ?_
    refine sim_let (v := sv a15.first) ((Tab.enc h4 m_.bigrams).ld hm18 false 1 0) ?_
    refine sim_let (v := bv (decide (a15.first = (⟨#[]⟩ : ByteArray)))) (aCmp_eqS _ _) ?_
    refine sim_cond (fun c19 => ?_) (fun c19 => ?_)
    · refine sim_cat (fun s20 => ?_)
      refine sim_let (v := elp (Sl.enc m_.bigrams) m16 0) (nc_elp _ _ _) ?_
      refine sim_let (v := elp (Sl.enc m_.bigrams) m16 1) ((Tab.enc h4 m_.bigrams).fld _ _ _) ?_
      refine sim_let (v := sv a15.second) ((Tab.enc h4 m_.bigrams).ld hm18 false 1 1) ?_
      refine sim_cat (fun s21 => ?_)
      refine sim_cat (fun s22 => ?_)
      refine sim_let (v := elp (Sl.enc m_.bigrams) m16 0) (nc_elp _ _ _) ?_
      refine sim_let (v := elp (Sl.enc m_.bigrams) m16 2) ((Tab.enc h4 m_.bigrams).fld _ _ _) ?_
      refine sim_let (v := iv a15.cost) ((Tab.enc h4 m_.bigrams).ld hm18 false 1 2) ?_
      refine sim_callQ1 he_spec_l01Dec (snapD_int _ _) (fun c23 => ?_)
      refine sim_let2 (hand_plain (by rfl) _ _) ?_
      refine sim_cat (fun s24 => ?_)
      refine sim_cat (fun s25 => ?_)
      refine sim_cat (fun s26 => ?_)
      refine sim_let (v := iv (wr (w7 + 1))) (aBin_add _ _) ?_
      exact sim_ret ⟨rfl, rfl, O5⟩
    · refine sim_cat (fun s28 => ?_)
      refine sim_let (v := elp (Sl.enc m_.bigrams) m16 0) (nc_elp _ _ _) ?_
      refine sim_let (v := elp (Sl.enc m_.bigrams) m16 1) ((Tab.enc h4 m_.bigrams).fld _ _ _) ?_
      refine sim_let (v := sv a15.second) ((Tab.enc h4 m_.bigrams).ld hm18 false 1 1) ?_
      refine sim_cat (fun s29 => ?_)
      refine sim_cat (fun s30 => ?_)
      refine sim_let (v := elp (Sl.enc m_.bigrams) m16 0) (nc_elp _ _ _) ?_
      refine sim_let (v := elp (Sl.enc m_.bigrams) m16 2) ((Tab.enc h4 m_.bigrams).fld _ _ _) ?_
      refine sim_let (v := iv a15.cost) ((Tab.enc h4 m_.bigrams).ld hm18 false 1 2) ?_
      refine sim_callQ1 he_spec_l01Dec (snapD_int _ _) (fun c31 => ?_)
      refine sim_let2 (hand_plain (by rfl) _ _) ?_
      refine sim_cat (fun s32 => ?_)
      refine sim_cat (fun s33 => ?_)
      refine sim_cat (fun s34 => ?_)
      refine sim_let (v := iv (wr (w7 + 1))) (aBin_add _ _) ?_
      exact sim_ret ⟨rfl, rfl, O5⟩
  · exact sim_ret ⟨nofun, _, _, _, _, rfl, O5⟩
theorem ts_spec_l18Text (env : Nat → Contract) (he_spec_l01Dec : env n_spec_l01Dec = .pure (C1 (fun c : ByteArray => enc c) t_spec_l01Dec)) (m_ : Model) {m_p : Pt Model} (hp_m_ : m_p.get = some m_) : Sim (denFn Tryd.prog env n_spec_l18Text [AV.fptr (Row.w Model) (m_p.tab.map Row.cells) m_p.i 0] []) (t_spec_l18Text m_) fun c p => release p.2 depth p.1 = some ((fun c : ByteArray => enc c) c) := by
  have O := Hold.nil []
  generalize hB : (⟨[], []⟩ : Base) = B at O
  clear hB
  rw [e_spec_l18Text]
  unfold t_spec_l18Text
  refine sim_let (v := AV.fptr (Row.w Model) (m_p.tab.map Row.cells) m_p.i 0) rfl ?_
  refine sim_let (v := AV.fptr (Row.w Model) (m_p.tab.map Row.cells) m_p.i 0) rfl ?_
  refine sim_let (v := iv m_.default) (ld_pt hp_m_ false 1 0) ?_
  refine sim_call1 he_spec_l01Dec (snapD_int _ _) (fun c1 => ?_)
  refine sim_let2 (hand_plain (by rfl) _ _) ?_
  refine sim_cat (fun s2 => ?_)
  refine sim_cat (fun s3 => ?_)
  refine sim_bind ((tl0_spec_l18Text env he_spec_l01Dec m_ m_p hp_m_ c1 s2 s3) ⟨rfl, O⟩) (fun qq38 r hq => ?_)
  revert hq
  revert qq38
  intro q10 hq
  obtain ⟨q11, z12, z13, h8, rfl, O9⟩ := hq
  rw [e_lk0x0_spec_l18Text]
  exact sim_ret (release_plain (by rfl) _)
theorem tt_spec_l18Text : PureOK Tryd.prog n_spec_l18Text (C1 (fun c : ByteArray => enc c) tp_spec_l18Text) := pureC1 (Econs tt_spec_l01Dec E0) mixed hb_spec_l18Text fun m_p => sim_getP fun m_ hp_m_ => ts_spec_l18Text _ (by simp [envL]) m_ hp_m_

def t_spec_ModelText (m_ : Model) : Option ByteArray :=
  obind (t_spec_l18Ok m_) fun c5 =>
  bif !c5 then
    some (⟨#[]⟩ : ByteArray)
  else
    obind (t_spec_l18Text m_) fun c7 =>
    some c7

theorem ts_spec_ModelText (env : Nat → Contract) (he_spec_l18Ok : env n_spec_l18Ok = .pure (C1 (fun c : Bool => enc c) tp_spec_l18Ok)) (he_spec_l18Text : env n_spec_l18Text = .pure (C1 (fun c : ByteArray => enc c) tp_spec_l18Text)) (m_ : Model) : Sim (denFn Tryd.prog env n_spec_ModelText [AV.agg [iv m_.default, Sl.enc m_.bigrams]] []) (t_spec_ModelText m_) fun c p => release p.2 depth p.1 = some ((fun c : ByteArray => enc c) c) := by
  have O := Hold.nil []
  generalize hB : (⟨[], []⟩ : Base) = B at O
  clear hB
  rw [e_spec_ModelText]
  unfold t_spec_ModelText
  refine sim_box O (cs := [iv m_.default, Sl.enc m_.bigrams]) (by first | rfl | simp) (fun o1 h2 O3 => ?_)
  replace O3 : Hold B h2 [(AV.ptr o1 1 0 0, .pt 2 [iv m_.default, Sl.enc m_.bigrams])] := O3
  refine sim_eqO (y' := tp_spec_l18Ok ⟨[m_], 0⟩) (by simp only [tp_spec_l18Ok, get_pt1, obind_sm]) ?_
  refine sim_call1 he_spec_l18Ok (O3.snapRn 0 rfl m_ rfl rfl) (fun c5 => ?_)
  refine sim_let2 (hand_plain (by rfl) _ _) ?_
  refine sim_let (v := bv (!c5)) (aUn_not _) ?_
  refine sim_cond (fun c6 => ?_) (fun c6 => ?_)
  · exact sim_ret (release_plain (by rfl) _)
  · refine sim_eqO (y' := tp_spec_l18Text ⟨[m_], 0⟩) (by simp only [tp_spec_l18Text, get_pt1, obind_sm]) ?_
    refine sim_call1 he_spec_l18Text (O3.snapRn 0 rfl m_ rfl rfl) (fun c7 => ?_)
    refine sim_let2 (hand_plain (by rfl) _ _) ?_
    exact sim_ret (release_plain (by rfl) _)
theorem tt_spec_ModelText : PureOK Tryd.prog n_spec_ModelText (C1 (fun c : ByteArray => enc c) t_spec_ModelText) := pureC1 (Econs tt_spec_l18Ok (Econs tt_spec_l18Text E0)) mixed hb_spec_ModelText fun m_ => ts_spec_ModelText _ (by simp [envL]) (by simp [envL]) m_

def s0_impl_IsWord (l5 : List UInt8) : Int → Option (Sum Int (Sum Unit Bool)) := fun w8 =>
  bif decide (w8 < ((((some l5).getD []).length : Nat) : Int)) then
    obind (getI ((some l5).getD []) w8) fun a20 =>
    obind (some (isLow a20)) fun c24 =>
    bif !c24 then
      some (.inr (.inr false))
    else
      some (.inl (wr (w8 + 1)))
  else
    some (.inr (.inl ()))
def t_impl_IsWord (s_ : ByteArray) : Option Bool :=
  obind (bytesO s_) fun l5 =>
  obind (loopT (s0_impl_IsWord l5) 0) fun qq30 => match qq30 with
  | (.inl _) =>
      obind (bif decide (1 ≤ (s_.size : Int)) then (some (decide ((s_.size : Int) ≤ 10))) else some false) fun c14 =>
      some (bif decide (1 ≤ (s_.size : Int)) then c14 else false)
  | (.inr q17) =>
      some q17

theorem tl0_impl_IsWord (env : Nat → Contract) {B : Base} (he_impl_isLetter : env n_impl_isLetter = .pure (T1 isLow)) (s_ : ByteArray) (x1 : AV) (l5 : List UInt8)  {st : Int} {tm : TM} {h : Heap} (R : (fun (st : Int) tm h6 => match st with | w8 => tm = [sv s_, und, AV.top, und, AV.top, sv s_, x1, iv ((((some l5).getD []).length : Nat) : Int), iv w8, AV.top, AV.top, AV.top, AV.top, AV.top, AV.top, AV.top, und, und, und, und, und, und, und, und] ∧ Hold B h6 [(x1, obS ((some l5) : Sl UInt8))]) st tm h) : Sim (loopP hm0_impl_IsWord xm0_impl_IsWord (lb0_impl_IsWord env) tm h) (loopT (s0_impl_IsWord l5) st) (fun (q : Sum Unit Bool) (r : Res) => match q with | .inl _ => ∃ (z11 : AV) (z12 : AV) (h9 : Heap), r = (.exit 0, [sv s_, und, z11, und, z12, sv s_, x1, iv ((((some l5).getD []).length : Nat) : Int), AV.top, AV.top, AV.top, AV.top, AV.top, AV.top, AV.top, AV.top, und, und, und, und, und, und, und, und], h9) ∧ Hold B h9 [(x1, obS ((some l5) : Sl UInt8))] | .inr q17 => ∃ (q18 : UInt8) (h15 : Heap), r = (.ret, [sv s_, und, bv q17, und, bt q18, sv s_, x1, iv ((((some l5).getD []).length : Nat) : Int), AV.top, AV.top, AV.top, AV.top, AV.top, AV.top, AV.top, AV.top, und, und, und, und, und, und, und, und], h15) ∧ Hold B h15 [(x1, obS ((some l5) : Sl UInt8))]) := by
  refine loop_sim (Rel := fun (st : Int) tm h6 => match st with | w8 => tm = [sv s_, und, AV.top, und, AV.top, sv s_, x1, iv ((((some l5).getD []).length : Nat) : Int), iv w8, AV.top, AV.top, AV.top, AV.top, AV.top, AV.top, AV.top, und, und, und, und, und, und, und, und] ∧ Hold B h6 [(x1, obS ((some l5) : Sl UInt8))]) (fun w8 tm h6 R => ?_) R
  obtain ⟨rfl, O7⟩ := R
  rw [e_lb0_impl_IsWord]
  unfold s0_impl_IsWord
  dsimp only
  refine sim_let (v := bv (decide (w8 < ((((some l5).getD []).length : Nat) : Int)))) (aBin_lss _ _) ?_
  refine sim_cond (fun c19 => ?_) (fun c19 => ?_)
  · refine sim_get (O7.tab (A := UInt8) (s := (some l5)) 0 rfl) (fun m21 a20 hi22 hm23 => ?_)
    refine sim_let (v := bt a20) ((O7.tab (A := UInt8) (s := (some l5)) 0 rfl).ld hm23 false 1 0) ?_
    refine sim_callV1 (t := isLow) he_impl_isLetter (snapD_byte _ _) (fun c24 => ?_)
    refine sim_let (v := bv (!c24)) (aUn_not _) ?_
    refine sim_cond (fun c25 => ?_) (fun c25 => ?_)
    · exact sim_ret ⟨nofun, _, _, rfl, O7⟩
    · refine sim_let (v := iv (wr (w8 + 1))) (aBin_add _ _) ?_
      exact sim_ret ⟨rfl, rfl, O7⟩
  · exact sim_ret ⟨nofun, _, _, _, rfl, O7⟩
theorem ts_impl_IsWord (env : Nat → Contract) (he_impl_isLetter : env n_impl_isLetter = .pure (T1 isLow)) (s_ : ByteArray) : Sim (denFn Tryd.prog env n_impl_IsWord [sv s_] []) (t_impl_IsWord s_) fun c p => release p.2 depth p.1 = some ((fun c : Bool => enc c) c) := by
  have O := Hold.nil []
  generalize hB : (⟨[], []⟩ : Base) = B at O
  clear hB
  rw [e_impl_IsWord]
  unfold t_impl_IsWord
  refine sim_bytes O (fun l5 x1 h2 O3 => ?_)
  replace O3 : Hold B h2 [(x1, obS ((some l5) : Sl UInt8))] := O3
  refine sim_let (v := iv ((((some l5).getD []).length : Nat) : Int)) (O3.tab (A := UInt8) (s := (some l5)) 0 rfl).len ?_
  refine sim_bind ((tl0_impl_IsWord env he_impl_isLetter s_ x1 l5) ⟨rfl, O3⟩) (fun qq30 r hq => ?_)
  rcases qq30 with _ | q17
  · obtain ⟨z11, z12, h9, rfl, O10⟩ := hq
    rw [e_lk0x0_impl_IsWord]
    refine sim_let (v := iv (s_.size : Int)) rfl ?_
    refine sim_let (v := bv (decide (1 ≤ (s_.size : Int)))) (aBin_geq _ _) ?_
    refine sim_guardT (e := bv) (fun hb13 => ?_) (fun c14 => ?_)
    · refine sim_let (v := iv (s_.size : Int)) rfl ?_
      refine sim_let (v := bv (decide ((s_.size : Int) ≤ 10))) (aBin_leq _ _) ?_
      exact sim_ret rfl
    · refine sim_let (v := bv (bif decide (1 ≤ (s_.size : Int)) then c14 else false)) (pick_b _ _ _) ?_
      exact sim_ret (release_plain (by rfl) _)
  · obtain ⟨q18, h15, rfl, O16⟩ := hq
    rw [e_lk0r_impl_IsWord]
    exact sim_ret (release_plain (by rfl) _)
theorem tt_impl_IsWord : PureOK Tryd.prog n_impl_IsWord (C1 (fun c : Bool => enc c) t_impl_IsWord) := pureC1 (Econs ok_impl_isLetter E0) mixed hb_impl_IsWord fun s_ => ts_impl_IsWord _ (by simp [envL]) s_

def t_impl_validBigram (b_ : Bigram) : Option Bool :=
  obind (t_impl_IsWord b_.second) fun c5 =>
  obind (bif c5 then (some (decide (b_.first = (⟨#[]⟩ : ByteArray)))) else some false) fun c7 =>
  obind (bif (c5 && !c7) then (obind (t_impl_IsWord b_.first) fun c9 => some c9) else some false) fun c10 =>
  obind (bif c5 then (some (bif c7 then true else c10)) else some false) fun c12 =>
  obind (bif (bif c5 then c12 else false) then (obind (some ((fun y => within y 0 1000000) b_.cost)) fun c14 => some c14) else some false) fun c15 =>
  some (bif (bif c5 then c12 else false) then c15 else false)

theorem ts_impl_validBigram (env : Nat → Contract) (he_impl_IsWord : env n_impl_IsWord = .pure (C1 (fun c : Bool => enc c) t_impl_IsWord)) (he_impl_isCost : env n_impl_isCost = .pure (T1 (fun y => within y 0 1000000))) (b_ : Bigram) : Sim (denFn Tryd.prog env n_impl_validBigram [AV.agg [sv b_.first, sv b_.second, iv b_.cost]] []) (t_impl_validBigram b_) fun c p => release p.2 depth p.1 = some ((fun c : Bool => enc c) c) := by
  have O := Hold.nil []
  generalize hB : (⟨[], []⟩ : Base) = B at O
  clear hB
  rw [e_impl_validBigram]
  unfold t_impl_validBigram
  refine sim_box O (cs := [sv b_.first, sv b_.second, iv b_.cost]) (by first | rfl | simp) (fun o1 h2 O3 => ?_)
  replace O3 : Hold B h2 [(AV.ptr o1 1 0 0, .pt 3 [sv b_.first, sv b_.second, iv b_.cost])] := O3
  refine sim_let (v := AV.ptr o1 1 0 1) rfl ?_
  refine sim_let (v := sv b_.second) (O3.ld 0 rfl false 1 1) ?_
  refine sim_call1 he_impl_IsWord (snapD_str _ _) (fun c5 => ?_)
  refine sim_let2 (hand_plain (by rfl) _ _) ?_
  refine sim_guardT (e := bv) (fun hb6 => ?_) (fun c7 => ?_)
  · refine sim_let (v := AV.ptr o1 1 0 0) rfl ?_
    refine sim_let (v := sv b_.first) (O3.ld 0 rfl false 1 0) ?_
    refine sim_let (v := bv (decide (b_.first = (⟨#[]⟩ : ByteArray)))) (aCmp_eqS _ _) ?_
    exact sim_ret rfl
  · simp only [gv_TF]
    refine sim_guardT (e := bv) (fun hb8 => ?_) (fun c10 => ?_)
    · refine sim_let (v := AV.ptr o1 1 0 0) rfl ?_
      refine sim_let (v := sv b_.first) (O3.ld 0 rfl false 1 0) ?_
      refine sim_call1 he_impl_IsWord (snapD_str _ _) (fun c9 => ?_)
      refine sim_let2 (hand_plain (by rfl) _ _) ?_
      exact sim_ret rfl
    · refine sim_guardT (e := bv) (fun hb11 => ?_) (fun c12 => ?_)
      · simp only [hb11, cond_true, cond_false, Bool.not_true, Bool.not_false, Bool.true_and, Bool.and_true, Bool.false_and, Bool.not_not]
        refine sim_let (v := bv (bif c7 then true else c10)) (pick_nb _ _ _) ?_
        exact sim_ret rfl
      · refine sim_let (v := bv (bif c5 then c12 else false)) (pick_b _ _ _) ?_
        refine sim_guardT (e := bv) (fun hb13 => ?_) (fun c15 => ?_)
        · refine sim_let (v := AV.ptr o1 1 0 2) rfl ?_
          refine sim_let (v := iv b_.cost) (O3.ld 0 rfl false 1 2) ?_
          refine sim_callV1 (t := (fun y => within y 0 1000000)) he_impl_isCost (snapD_int _ _) (fun c14 => ?_)
          exact sim_ret rfl
        · refine sim_let (v := bv (bif (bif c5 then c12 else false) then c15 else false)) (pick_b _ _ _) ?_
          exact sim_ret (release_plain (by rfl) _)
theorem tt_impl_validBigram : PureOK Tryd.prog n_impl_validBigram (C1 (fun c : Bool => enc c) t_impl_validBigram) := pureC1 (Econs tt_impl_IsWord (Econs ok_impl_isCost E0)) mixed hb_impl_validBigram fun b_ => ts_impl_validBigram _ (by simp [envL]) (by simp [envL]) b_

def s0_impl_ValidModel (m_ : Model) : Int → Option (Sum Int (Sum Unit Bool)) := fun w7 =>
  bif decide (w7 < (((m_.bigrams.getD []).length : Nat) : Int)) then
    obind (getI (m_.bigrams.getD []) w7) fun a22 =>
    obind (t_impl_validBigram a22) fun c32 =>
    obind (bif !c32 then some false else (some (decide (0 < w7)))) fun c34 =>
    obind (bif (!(!c32) && c34) then (obind (getI (m_.bigrams.getD []) (wr (w7 - 1))) fun a38 => obind (some (cmpB a38 a22)) fun c42 => some (decide (0 ≤ c42))) else some false) fun c43 =>
    obind (bif !c32 then some false else (some (bif c34 then c43 else false))) fun c53 =>
    bif (bif !c32 then true else c53) then
      some (.inr (.inr false))
    else
      some (.inl (wr (w7 + 1)))
  else
    some (.inr (.inl ()))
def t_impl_ValidModel (m_ : Model) : Option Bool :=
  obind (loopT (s0_impl_ValidModel m_) 0) fun qq59 => match qq59 with
  | (.inl _) =>
      obind (some ((fun y => within y 0 1000000) m_.default)) fun c13 =>
      obind (bif c13 then (some (decide ((((m_.bigrams.getD []).length : Nat) : Int) ≤ 60))) else some false) fun c15 =>
      some (bif c13 then c15 else false)
  | (.inr q18) =>
      some q18

theorem tl0_impl_ValidModel (env : Nat → Contract) {B : Base} (he_impl_compareBigrams : env n_impl_compareBigrams = .pure (T2 cmpB)) (he_impl_isCost : env n_impl_isCost = .pure (T1 (fun y => within y 0 1000000))) (he_impl_validBigram : env n_impl_validBigram = .pure (C1 (fun c : Bool => enc c) t_impl_validBigram)) (m_ : Model) (o1 : Nat)  {st : Int} {tm : TM} {h : Heap} (R : (fun (st : Int) tm h5 => match st with | w7 => tm = [AV.agg [iv m_.default, Sl.enc m_.bigrams], AV.ptr o1 1 0 0, AV.top, AV.top, AV.top, AV.ptr o1 1 0 1, Sl.enc m_.bigrams, iv (((m_.bigrams.getD []).length : Nat) : Int), iv w7, AV.top, AV.top, AV.top, AV.top, AV.top, AV.top, AV.top, AV.top, AV.top, AV.top, AV.top, AV.top, AV.top, AV.top, AV.top, AV.top, AV.top, AV.top, AV.top, AV.top, AV.top, AV.top, AV.top, und, und, und, und, und, und, und, und, und] ∧ Hold B h5 [(AV.ptr o1 1 0 0, .pt 2 [iv m_.default, Sl.enc m_.bigrams])]) st tm h) : Sim (loopP hm0_impl_ValidModel xm0_impl_ValidModel (lb0_impl_ValidModel env) tm h) (loopT (s0_impl_ValidModel m_) st) (fun (q : Sum Unit Bool) (r : Res) => match q with | .inl _ => ∃ (z10 : AV) (z11 : AV) (z12 : AV) (h8 : Heap), r = (.exit 0, [AV.agg [iv m_.default, Sl.enc m_.bigrams], AV.ptr o1 1 0 0, z10, z11, z12, AV.ptr o1 1 0 1, Sl.enc m_.bigrams, iv (((m_.bigrams.getD []).length : Nat) : Int), AV.top, AV.top, AV.top, AV.top, AV.top, AV.top, AV.top, AV.top, AV.top, AV.top, AV.top, AV.top, AV.top, AV.top, AV.top, AV.top, AV.top, AV.top, AV.top, AV.top, AV.top, AV.top, AV.top, AV.top, und, und, und, und, und, und, und, und, und], h8) ∧ Hold B h8 [(AV.ptr o1 1 0 0, .pt 2 [iv m_.default, Sl.enc m_.bigrams])] | .inr q18 => ∃ (q19 : Int) (z20 : AV) (h16 : Heap), r = (.ret, [AV.agg [iv m_.default, Sl.enc m_.bigrams], AV.ptr o1 1 0 0, bv q18, iv q19, z20, AV.ptr o1 1 0 1, Sl.enc m_.bigrams, iv (((m_.bigrams.getD []).length : Nat) : Int), AV.top, AV.top, AV.top, AV.top, AV.top, AV.top, AV.top, AV.top, AV.top, AV.top, AV.top, AV.top, AV.top, AV.top, AV.top, AV.top, AV.top, AV.top, AV.top, AV.top, AV.top, AV.top, AV.top, AV.top, und, und, und, und, und, und, und, und, und], h16) ∧ Hold B h16 [(AV.ptr o1 1 0 0, .pt 2 [iv m_.default, Sl.enc m_.bigrams])]) := by
  refine loop_sim (Rel := fun (st : Int) tm h5 => match st with | w7 => tm = [AV.agg [iv m_.default, Sl.enc m_.bigrams], AV.ptr o1 1 0 0, AV.top, AV.top, AV.top, AV.ptr o1 1 0 1, Sl.enc m_.bigrams, iv (((m_.bigrams.getD []).length : Nat) : Int), iv w7, AV.top, AV.top, AV.top, AV.top, AV.top, AV.top, AV.top, AV.top, AV.top, AV.top, AV.top, AV.top, AV.top, AV.top, AV.top, AV.top, AV.top, AV.top, AV.top, AV.top, AV.top, AV.top, AV.top, und, und, und, und, und, und, und, und, und] ∧ Hold B h5 [(AV.ptr o1 1 0 0, .pt 2 [iv m_.default, Sl.enc m_.bigrams])]) (fun w7 tm h5 R => ?_) R
  obtain ⟨rfl, O6⟩ := R
  rw [e_lb0_impl_ValidModel]
  unfold s0_impl_ValidModel
  dsimp only
  refine sim_let (v := bv (decide (w7 < (((m_.bigrams.getD []).length : Nat) : Int)))) (aBin_lss _ _) ?_
  refine sim_cond (fun c21 => ?_) (fun c21 => ?_)
  · refine sim_get (Tab.enc h5 m_.bigrams) (fun m23 a22 hi24 hm25 => ?_)
    refine sim_let (v := AV.agg [sv a22.first, sv a22.second, iv a22.cost]) ((Tab.enc h5 m_.bigrams).ld hm25 true 3 0) ?_
    refine sim_box O6 (cs := [sv (⟨#[]⟩ : ByteArray), sv (⟨#[]⟩ : ByteArray), iv 0]) (by first | rfl | simp) (fun o26 h27 O28 => ?_)
    replace O28 : Hold B h27 [(AV.ptr o1 1 0 0, .pt 2 [iv m_.default, Sl.enc m_.bigrams]), (AV.ptr o26 1 0 0, .pt 3 [sv (⟨#[]⟩ : ByteArray), sv (⟨#[]⟩ : ByteArray), iv 0])] := O28
    refine sim_store O28 1 (cs' := [sv a22.first, sv a22.second, iv a22.cost]) rfl (by first | rfl | simp) (by simp) (by first | rfl | simp) (by first | rfl | simp [splice]) (fun h30 O31 => ?_)
    replace O31 : Hold B h30 [(AV.ptr o1 1 0 0, .pt 2 [iv m_.default, Sl.enc m_.bigrams]), (AV.ptr o26 1 0 0, .pt 3 [sv a22.first, sv a22.second, iv a22.cost])] := O31
    refine sim_let (v := AV.agg [sv a22.first, sv a22.second, iv a22.cost]) (O31.ld 1 rfl true 3 0) ?_
    refine sim_callQ1 he_impl_validBigram (snapD_nr _ a22 rfl) (fun c32 => ?_)
    refine sim_let2 (hand_plain (by rfl) _ _) ?_
    refine sim_let (v := bv (!c32)) (aUn_not _) ?_
    refine sim_g3F (e := bv) (fun hb33 => ?_) (fun y35 y36 c34 => ?_)
    · refine sim_o0 ?_
      refine sim_o1 ?_
      refine sim_let (v := bv (decide (0 < w7))) (aBin_gtr _ _) ?_
      refine sim_o0 ?_
      exact sim_ret rfl
    · simp only [gv_FT]
      refine sim_g9T (e := bv) (fun hb37 => ?_) (fun y44 y45 y46 y47 y48 y49 y50 y51 c43 => ?_)
      · refine sim_o1 ?_
        refine sim_let (v := AV.ptr o1 1 0 1) rfl ?_
        refine sim_o0 ?_
        refine sim_o1 ?_
        refine sim_let (v := Sl.enc m_.bigrams) (O31.ld 0 rfl false 1 1) ?_
        refine sim_o0 ?_
        refine sim_o0 ?_
        refine sim_o1 ?_
        refine sim_let (v := iv (wr (w7 - 1))) (aBin_sub _ _) ?_
        refine sim_o0 ?_
        refine sim_o1 ?_
        refine sim_get (Tab.enc h30 m_.bigrams) (fun m39 a38 hi40 hm41 => ?_)
        refine sim_o0 ?_
        refine sim_o1 ?_
        refine sim_let (v := AV.agg [sv a38.first, sv a38.second, iv a38.cost]) ((Tab.enc h30 m_.bigrams).ld hm41 true 3 0) ?_
        refine sim_o0 ?_
        refine sim_o1 ?_
        refine sim_let (v := AV.agg [sv a22.first, sv a22.second, iv a22.cost]) (O31.ld 1 rfl true 3 0) ?_
        refine sim_o0 ?_
        refine sim_o2 ?_
        refine sim_callVQ2 (t := cmpB) he_impl_compareBigrams (snapD_nr _ a38 rfl) (snapD_nr _ a22 rfl) (fun c42 => ?_)
        refine sim_o0 ?_
        refine sim_let (v := bv (decide (0 ≤ c42))) (aBin_geq _ _) ?_
        exact sim_ret rfl
      · refine sim_guardF (e := bv) (fun hb52 => ?_) (fun c53 => ?_)
        · simp only [hb52, cond_true, cond_false, Bool.not_true, Bool.not_false, Bool.true_and, Bool.and_true, Bool.false_and, Bool.not_not]
          refine sim_let (v := bv (bif c34 then c43 else false)) (pick_b _ _ _) ?_
          exact sim_ret rfl
        · refine sim_let (v := bv (bif !c32 then true else c53)) (pick_b' _ _ _) ?_
          refine sim_cond (fun c54 => ?_) (fun c54 => ?_)
          · have O55 : Hold B h30 [(AV.ptr o1 1 0 0, .pt 2 [iv m_.default, Sl.enc m_.bigrams])] := O31.sel [0] (by decide) rfl
            exact sim_ret ⟨nofun, _, _, _, rfl, O55⟩
          · refine sim_let (v := iv (wr (w7 + 1))) (aBin_add _ _) ?_
            have O56 : Hold B h30 [(AV.ptr o1 1 0 0, .pt 2 [iv m_.default, Sl.enc m_.bigrams])] := O31.sel [0] (by decide) rfl
            exact sim_ret ⟨rfl, rfl, O56⟩
  · exact sim_ret ⟨nofun, _, _, _, _, rfl, O6⟩
theorem ts_impl_ValidModel (env : Nat → Contract) (he_impl_compareBigrams : env n_impl_compareBigrams = .pure (T2 cmpB)) (he_impl_isCost : env n_impl_isCost = .pure (T1 (fun y => within y 0 1000000))) (he_impl_validBigram : env n_impl_validBigram = .pure (C1 (fun c : Bool => enc c) t_impl_validBigram)) (m_ : Model) : Sim (denFn Tryd.prog env n_impl_ValidModel [AV.agg [iv m_.default, Sl.enc m_.bigrams]] []) (t_impl_ValidModel m_) fun c p => release p.2 depth p.1 = some ((fun c : Bool => enc c) c) := by
  have O := Hold.nil []
  generalize hB : (⟨[], []⟩ : Base) = B at O
  clear hB
  rw [e_impl_ValidModel]
  unfold t_impl_ValidModel
  refine sim_box O (cs := [iv m_.default, Sl.enc m_.bigrams]) (by first | rfl | simp) (fun o1 h2 O3 => ?_)
  replace O3 : Hold B h2 [(AV.ptr o1 1 0 0, .pt 2 [iv m_.default, Sl.enc m_.bigrams])] := O3
  refine sim_let (v := AV.ptr o1 1 0 1) rfl ?_
  refine sim_let (v := Sl.enc m_.bigrams) (O3.ld 0 rfl false 1 1) ?_
  refine sim_let (v := iv (((m_.bigrams.getD []).length : Nat) : Int)) (Tab.enc h2 m_.bigrams).len ?_
  refine sim_bind ((tl0_impl_ValidModel env he_impl_compareBigrams he_impl_isCost he_impl_validBigram m_ o1) ⟨rfl, O3⟩) (fun qq59 r hq => ?_)
  rcases qq59 with _ | q18
  · obtain ⟨z10, z11, z12, h8, rfl, O9⟩ := hq
    rw [e_lk0x0_impl_ValidModel]
    refine sim_let (v := AV.ptr o1 1 0 0) rfl ?_
    refine sim_let (v := iv m_.default) (O9.ld 0 rfl false 1 0) ?_
    refine sim_callV1 (t := (fun y => within y 0 1000000)) he_impl_isCost (snapD_int _ _) (fun c13 => ?_)
    refine sim_guardT (e := bv) (fun hb14 => ?_) (fun c15 => ?_)
    · refine sim_let (v := AV.ptr o1 1 0 1) rfl ?_
      refine sim_let (v := Sl.enc m_.bigrams) (O9.ld 0 rfl false 1 1) ?_
      refine sim_let (v := iv (((m_.bigrams.getD []).length : Nat) : Int)) (Tab.enc h8 m_.bigrams).len ?_
      refine sim_let (v := bv (decide ((((m_.bigrams.getD []).length : Nat) : Int) ≤ 60))) (aBin_leq _ _) ?_
      exact sim_ret rfl
    · refine sim_let (v := bv (bif c13 then c15 else false)) (pick_b _ _ _) ?_
      exact sim_ret (release_plain (by rfl) _)
  · obtain ⟨q19, z20, h16, rfl, O17⟩ := hq
    rw [e_lk0r_impl_ValidModel]
    exact sim_ret (release_plain (by rfl) _)
theorem tt_impl_ValidModel : PureOK Tryd.prog n_impl_ValidModel (C1 (fun c : Bool => enc c) t_impl_ValidModel) := pureC1 (Econs ok_impl_compareBigrams (Econs ok_impl_isCost (Econs tt_impl_validBigram E0))) mixed hb_impl_ValidModel fun m_ => ts_impl_ValidModel _ (by simp [envL]) (by simp [envL]) (by simp [envL]) m_

def t_impl_Decimal (n_ : Int) : Option ByteArray :=
  obind (fmtO n_ 10) fun c1 =>
  some c1

theorem ts_impl_Decimal (env : Nat → Contract) (he_strconv_FormatInt : env n_strconv_FormatInt = .pure (C2 (fun c : ByteArray => enc c) fmtO)) (n_ : Int) : Sim (denFn Tryd.prog env n_impl_Decimal [iv n_] []) (t_impl_Decimal n_) fun c p => release p.2 depth p.1 = some ((fun c : ByteArray => enc c) c) := by
  have O := Hold.nil []
  generalize hB : (⟨[], []⟩ : Base) = B at O
  clear hB
  rw [e_impl_Decimal]
  unfold t_impl_Decimal
  refine sim_call2 he_strconv_FormatInt (snapD_int _ _) (snapD_int _ _) (fun c1 => ?_)
  refine sim_let2 (hand_plain (by rfl) _ _) ?_
  exact sim_ret (release_plain (by rfl) _)
theorem tt_impl_Decimal : PureOK Tryd.prog n_impl_Decimal (C1 (fun c : ByteArray => enc c) t_impl_Decimal) := pureC1 (Econs tt_strconv_FormatInt E0) mixed hb_impl_Decimal fun n_ => ts_impl_Decimal _ (by simp [envL]) n_

def s0_laws_eqBigramS (a_ : Sl Bigram) (b_ : Sl Bigram) : Int → Option (Sum Int (Sum Unit Bool)) := fun w4 =>
  bif decide (w4 < (((a_.getD []).length : Nat) : Int)) then
    obind (getI (a_.getD []) w4) fun a14 =>
    obind (getI (b_.getD []) w4) fun a18 =>
    obind (some ((fun a b : Bigram => decide (a = b)) a14 a18)) fun c22 =>
    bif !c22 then
      some (.inr (.inr false))
    else
      some (.inl (wr (w4 + 1)))
  else
    some (.inr (.inl ()))
def t_laws_eqBigramS (a_ : Sl Bigram) (b_ : Sl Bigram) : Option Bool :=
  bif !decide ((((a_.getD []).length : Nat) : Int) = (((b_.getD []).length : Nat) : Int)) then
    some false
  else
    obind (loopT (s0_laws_eqBigramS a_ b_) 0) fun qq28 => match qq28 with
    | (.inl _) =>
        some true
    | (.inr q11) =>
        some q11

theorem tl0_laws_eqBigramS (env : Nat → Contract) {B : Base} (he_laws_eqBigram : env n_laws_eqBigram = .pure (T2 (fun a b : Bigram => decide (a = b)))) (a_ : Sl Bigram) (b_ : Sl Bigram)  {st : Int} {tm : TM} {h : Heap} (R : (fun (st : Int) tm h2 => match st with | w4 => tm = [Sl.enc a_, Sl.enc b_, und, und, AV.top, iv w4, Sl.enc a_, iv (((a_.getD []).length : Nat) : Int), Sl.enc b_, iv (((b_.getD []).length : Nat) : Int), bv (!decide ((((a_.getD []).length : Nat) : Int) = (((b_.getD []).length : Nat) : Int))), AV.top, AV.top, AV.top, AV.top, AV.top, AV.top, AV.top, AV.top, AV.top, AV.top, AV.top, AV.top, AV.top, AV.top, AV.top, AV.top] ∧ Hold B h2 []) st tm h) : Sim (loopP hm0_laws_eqBigramS xm0_laws_eqBigramS (lb0_laws_eqBigramS env) tm h) (loopT (s0_laws_eqBigramS a_ b_) st) (fun (q : Sum Unit Bool) (r : Res) => match q with | .inl _ => ∃ (q8 : Int) (z7 : AV) (h5 : Heap), r = (.exit 0, [Sl.enc a_, Sl.enc b_, und, und, z7, iv q8, Sl.enc a_, iv (((a_.getD []).length : Nat) : Int), Sl.enc b_, iv (((b_.getD []).length : Nat) : Int), bv (!decide ((((a_.getD []).length : Nat) : Int) = (((b_.getD []).length : Nat) : Int))), AV.top, AV.top, AV.top, AV.top, AV.top, AV.top, AV.top, AV.top, AV.top, AV.top, AV.top, AV.top, AV.top, AV.top, AV.top, AV.top], h5) ∧ Hold B h5 [] | .inr q11 => ∃ (q12 : Int) (h9 : Heap), r = (.ret, [Sl.enc a_, Sl.enc b_, und, und, bv q11, iv q12, Sl.enc a_, iv (((a_.getD []).length : Nat) : Int), Sl.enc b_, iv (((b_.getD []).length : Nat) : Int), bv (!decide ((((a_.getD []).length : Nat) : Int) = (((b_.getD []).length : Nat) : Int))), AV.top, AV.top, AV.top, AV.top, AV.top, AV.top, AV.top, AV.top, AV.top, AV.top, AV.top, AV.top, AV.top, AV.top, AV.top, AV.top], h9) ∧ Hold B h9 []) := by
  refine loop_sim (Rel := fun (st : Int) tm h2 => match st with | w4 => tm = [Sl.enc a_, Sl.enc b_, und, und, AV.top, iv w4, Sl.enc a_, iv (((a_.getD []).length : Nat) : Int), Sl.enc b_, iv (((b_.getD []).length : Nat) : Int), bv (!decide ((((a_.getD []).length : Nat) : Int) = (((b_.getD []).length : Nat) : Int))), AV.top, AV.top, AV.top, AV.top, AV.top, AV.top, AV.top, AV.top, AV.top, AV.top, AV.top, AV.top, AV.top, AV.top, AV.top, AV.top] ∧ Hold B h2 []) (fun w4 tm h2 R => ?_) R
  obtain ⟨rfl, O3⟩ := R
  rw [e_lb0_laws_eqBigramS]
  unfold s0_laws_eqBigramS
  dsimp only
  refine sim_let (v := iv (((a_.getD []).length : Nat) : Int)) (Tab.enc h2 a_).len ?_
  refine sim_let (v := bv (decide (w4 < (((a_.getD []).length : Nat) : Int)))) (aBin_lss _ _) ?_
  refine sim_cond (fun c13 => ?_) (fun c13 => ?_)
  · refine sim_get (Tab.enc h2 a_) (fun m15 a14 hi16 hm17 => ?_)
    refine sim_let (v := AV.agg [sv a14.first, sv a14.second, iv a14.cost]) ((Tab.enc h2 a_).ld hm17 true 3 0) ?_
    refine sim_get (Tab.enc h2 b_) (fun m19 a18 hi20 hm21 => ?_)
    refine sim_let (v := AV.agg [sv a18.first, sv a18.second, iv a18.cost]) ((Tab.enc h2 b_).ld hm21 true 3 0) ?_
    refine sim_callVQ2 (t := (fun a b : Bigram => decide (a = b))) he_laws_eqBigram (snapD_nr _ a14 rfl) (snapD_nr _ a18 rfl) (fun c22 => ?_)
    refine sim_let (v := bv (!c22)) (aUn_not _) ?_
    refine sim_cond (fun c23 => ?_) (fun c23 => ?_)
    · exact sim_ret ⟨nofun, _, _, rfl, O3⟩
    · refine sim_let (v := iv (wr (w4 + 1))) (aBin_add _ _) ?_
      exact sim_ret ⟨rfl, rfl, O3⟩
  · exact sim_ret ⟨nofun, _, _, _, rfl, O3⟩
theorem ts_laws_eqBigramS (env : Nat → Contract) (he_laws_eqBigram : env n_laws_eqBigram = .pure (T2 (fun a b : Bigram => decide (a = b)))) (a_ : Sl Bigram) (b_ : Sl Bigram) : Sim (denFn Tryd.prog env n_laws_eqBigramS [Sl.enc a_, Sl.enc b_] []) (t_laws_eqBigramS a_ b_) fun c p => release p.2 depth p.1 = some ((fun c : Bool => enc c) c) := by
  have O := Hold.nil []
  generalize hB : (⟨[], []⟩ : Base) = B at O
  clear hB
  rw [e_laws_eqBigramS]
  unfold t_laws_eqBigramS
  refine sim_let (v := iv (((a_.getD []).length : Nat) : Int)) (Tab.enc [] a_).len ?_
  refine sim_let (v := iv (((b_.getD []).length : Nat) : Int)) (Tab.enc [] b_).len ?_
  refine sim_let (v := bv (!decide ((((a_.getD []).length : Nat) : Int) = (((b_.getD []).length : Nat) : Int)))) (aCmp_ne _ _) ?_
  refine sim_cond (fun c1 => ?_) (fun c1 => ?_)
  · exact sim_ret (release_plain (by rfl) _)
  · refine sim_bind ((tl0_laws_eqBigramS env he_laws_eqBigram a_ b_) ⟨rfl, O⟩) (fun qq28 r hq => ?_)
    rcases qq28 with _ | q11
    · obtain ⟨q8, z7, h5, rfl, O6⟩ := hq
      rw [e_lk0x0_laws_eqBigramS]
      exact sim_ret (release_plain (by rfl) _)
    · obtain ⟨q12, h9, rfl, O10⟩ := hq
      rw [e_lk0r_laws_eqBigramS]
      exact sim_ret (release_plain (by rfl) _)
theorem tt_laws_eqBigramS : PureOK Tryd.prog n_laws_eqBigramS (C2 (fun c : Bool => enc c) t_laws_eqBigramS) := pureC2 (Econs ok_laws_eqBigram E0) mixed hb_laws_eqBigramS fun a_ b_ => ts_laws_eqBigramS _ (by simp [envL]) a_ b_

def t_laws_eqModel (a_ : Model) (b_ : Model) : Option Bool :=
  bif !decide (a_.default = b_.default) then
    some false
  else
    obind (t_laws_eqBigramS a_.bigrams b_.bigrams) fun c10 =>
    bif !c10 then
      some false
    else
      some true

theorem ts_laws_eqModel (env : Nat → Contract) (he_laws_eqBigramS : env n_laws_eqBigramS = .pure (C2 (fun c : Bool => enc c) t_laws_eqBigramS)) (a_ : Model) (b_ : Model) : Sim (denFn Tryd.prog env n_laws_eqModel [AV.agg [iv a_.default, Sl.enc a_.bigrams], AV.agg [iv b_.default, Sl.enc b_.bigrams]] []) (t_laws_eqModel a_ b_) fun c p => release p.2 depth p.1 = some ((fun c : Bool => enc c) c) := by
  have O := Hold.nil []
  generalize hB : (⟨[], []⟩ : Base) = B at O
  clear hB
  rw [e_laws_eqModel]
  unfold t_laws_eqModel
  refine sim_box O (cs := [iv a_.default, Sl.enc a_.bigrams]) (by first | rfl | simp) (fun o1 h2 O3 => ?_)
  replace O3 : Hold B h2 [(AV.ptr o1 1 0 0, .pt 2 [iv a_.default, Sl.enc a_.bigrams])] := O3
  refine sim_box O3 (cs := [iv b_.default, Sl.enc b_.bigrams]) (by first | rfl | simp) (fun o5 h6 O7 => ?_)
  replace O7 : Hold B h6 [(AV.ptr o1 1 0 0, .pt 2 [iv a_.default, Sl.enc a_.bigrams]), (AV.ptr o5 1 0 0, .pt 2 [iv b_.default, Sl.enc b_.bigrams])] := O7
  refine sim_let (v := AV.ptr o1 1 0 0) rfl ?_
  refine sim_let (v := iv a_.default) (O7.ld 0 rfl false 1 0) ?_
  refine sim_let (v := AV.ptr o5 1 0 0) rfl ?_
  refine sim_let (v := iv b_.default) (O7.ld 1 rfl false 1 0) ?_
  refine sim_let (v := bv (!decide (a_.default = b_.default))) (aCmp_ne _ _) ?_
  refine sim_cond (fun c9 => ?_) (fun c9 => ?_)
  · exact sim_ret (release_plain (by rfl) _)
  · refine sim_let (v := AV.ptr o1 1 0 1) rfl ?_
    refine sim_let (v := Sl.enc a_.bigrams) (O7.ld 0 rfl false 1 1) ?_
    refine sim_let (v := AV.ptr o5 1 0 1) rfl ?_
    refine sim_let (v := Sl.enc b_.bigrams) (O7.ld 1 rfl false 1 1) ?_
    refine sim_call2 he_laws_eqBigramS (snapD_enc _ _) (snapD_enc _ _) (fun c10 => ?_)
    refine sim_let2 (hand_plain (by rfl) _ _) ?_
    refine sim_let (v := bv (!c10)) (aUn_not _) ?_
    refine sim_cond (fun c11 => ?_) (fun c11 => ?_)
    · exact sim_ret (release_plain (by rfl) _)
    · exact sim_ret (release_plain (by rfl) _)
theorem tt_laws_eqModel : PureOK Tryd.prog n_laws_eqModel (C2 (fun c : Bool => enc c) t_laws_eqModel) := pureC2 (Econs tt_laws_eqBigramS E0) mixed hb_laws_eqModel fun a_ b_ => ts_laws_eqModel _ (by simp [envL]) a_ b_

def s0_slices_IndexFunc_impl_Symbol_impl_Symbol (p_ : Symbol → Option Bool) (s_ : Sl Symbol) : Int → Option (Sum Int (Sum Unit Int)) := fun w3 =>
  bif decide (w3 < (((s_.getD []).length : Nat) : Int)) then
    obind (getI (s_.getD []) w3) fun a13 =>
    obind (p_ a13) fun c17 =>
    bif c17 then
      some (.inr (.inr w3))
    else
      some (.inl (wr (w3 + 1)))
  else
    some (.inr (.inl ()))
def t_slices_IndexFunc_impl_Symbol_impl_Symbol (p_ : Symbol → Option Bool) (s_ : Sl Symbol) : Option Int :=
  obind (loopT (s0_slices_IndexFunc_impl_Symbol_impl_Symbol p_ s_) 0) fun qq26 => match qq26 with
  | (.inl _) =>
      some (-1)
  | (.inr q10) =>
      some q10

theorem tl0_slices_IndexFunc_impl_Symbol_impl_Symbol (env : Nat → Contract) {B : Base} {K : Type} [Cod K] {g : Nat} {caps : K → List AV} {P : K → Symbol → Option Bool} (hp : ∀ k (a : Symbol) h, Sim (aCall (env g) (AV.agg (Row.cells a) :: caps k) h) (P k a) fun b r => r = (bv b, h))  (s_ : Sl Symbol) (f_ : K)  {st : Int} {tm : TM} {h : Heap} (R : (fun (st : Int) tm h1 => match st with | w3 => tm = [Sl.enc s_, AV.fn g (caps f_), und, und, AV.top, AV.top, Sl.enc s_, iv (((s_.getD []).length : Nat) : Int), iv w3, AV.top, AV.top, AV.top, AV.top, AV.top, AV.top, AV.top, AV.top, AV.top, AV.top] ∧ Hold B h1 []) st tm h) : Sim (loopP hm0_slices_IndexFunc_impl_Symbol_impl_Symbol xm0_slices_IndexFunc_impl_Symbol_impl_Symbol (lb0_slices_IndexFunc_impl_Symbol_impl_Symbol env) tm h) (loopT (s0_slices_IndexFunc_impl_Symbol_impl_Symbol (P f_) s_) st) (fun (q : Sum Unit Int) (r : Res) => match q with | .inl _ => ∃ (z6 : AV) (z7 : AV) (h4 : Heap), r = (.exit 0, [Sl.enc s_, AV.fn g (caps f_), und, und, z6, z7, Sl.enc s_, iv (((s_.getD []).length : Nat) : Int), AV.top, AV.top, AV.top, AV.top, AV.top, AV.top, AV.top, AV.top, AV.top, AV.top, AV.top], h4) ∧ Hold B h4 [] | .inr q10 => ∃ (q11 : Int) (h8 : Heap), r = (.ret, [Sl.enc s_, AV.fn g (caps f_), und, und, iv q10, iv q11, Sl.enc s_, iv (((s_.getD []).length : Nat) : Int), AV.top, AV.top, AV.top, AV.top, AV.top, AV.top, AV.top, AV.top, AV.top, AV.top, AV.top], h8) ∧ Hold B h8 []) := by
  refine loop_sim (Rel := fun (st : Int) tm h1 => match st with | w3 => tm = [Sl.enc s_, AV.fn g (caps f_), und, und, AV.top, AV.top, Sl.enc s_, iv (((s_.getD []).length : Nat) : Int), iv w3, AV.top, AV.top, AV.top, AV.top, AV.top, AV.top, AV.top, AV.top, AV.top, AV.top] ∧ Hold B h1 []) (fun w3 tm h1 R => ?_) R
  obtain ⟨rfl, O2⟩ := R
  rw [e_lb0_slices_IndexFunc_impl_Symbol_impl_Symbol]
  unfold s0_slices_IndexFunc_impl_Symbol_impl_Symbol
  dsimp only
  refine sim_let (v := bv (decide (w3 < (((s_.getD []).length : Nat) : Int)))) (aBin_lss _ _) ?_
  refine sim_cond (fun c12 => ?_) (fun c12 => ?_)
  · refine sim_get (Tab.enc h1 s_) (fun m14 a13 hi15 hm16 => ?_)
    refine sim_let (v := AV.agg [sv a13.label, iv a13.box.x1, iv a13.box.y1, iv a13.box.x2, iv a13.box.y2]) ((Tab.enc h1 s_).ld hm16 true 5 0) ?_
    refine sim_bind2 (hp f_ a13 _) (fun c17 v18 hh19 hq20 => ?_)
    cases hq20
    refine sim_cond (fun c21 => ?_) (fun c21 => ?_)
    · exact sim_ret ⟨nofun, _, _, rfl, O2⟩
    · refine sim_let (v := iv (wr (w3 + 1))) (aBin_add _ _) ?_
      exact sim_ret ⟨rfl, rfl, O2⟩
  · exact sim_ret ⟨nofun, _, _, _, rfl, O2⟩
theorem ts_slices_IndexFunc_impl_Symbol_impl_Symbol (env : Nat → Contract) {K : Type} [Cod K] {g : Nat} {caps : K → List AV} {P : K → Symbol → Option Bool} (hp : ∀ k (a : Symbol) h, Sim (aCall (env g) (AV.agg (Row.cells a) :: caps k) h) (P k a) fun b r => r = (bv b, h))  (s_ : Sl Symbol) (f_ : K) : Sim (denFn Tryd.prog env n_slices_IndexFunc_impl_Symbol_impl_Symbol [Sl.enc s_, AV.fn g (caps f_)] []) (t_slices_IndexFunc_impl_Symbol_impl_Symbol (P f_) s_) fun c p => release p.2 depth p.1 = some ((fun c : Int => enc c) c) := by
  have O := Hold.nil []
  generalize hB : (⟨[], []⟩ : Base) = B at O
  clear hB
  rw [e_slices_IndexFunc_impl_Symbol_impl_Symbol]
  unfold t_slices_IndexFunc_impl_Symbol_impl_Symbol
  refine sim_let (v := iv (((s_.getD []).length : Nat) : Int)) (Tab.enc [] s_).len ?_
  refine sim_bind ((tl0_slices_IndexFunc_impl_Symbol_impl_Symbol env hp s_ f_) ⟨rfl, O⟩) (fun qq26 r hq => ?_)
  rcases qq26 with _ | q10
  · obtain ⟨z6, z7, h4, rfl, O5⟩ := hq
    rw [e_lk0x0_slices_IndexFunc_impl_Symbol_impl_Symbol]
    exact sim_ret (release_plain (by rfl) _)
  · obtain ⟨q11, h8, rfl, O9⟩ := hq
    rw [e_lk0r_slices_IndexFunc_impl_Symbol_impl_Symbol]
    exact sim_ret (release_plain (by rfl) _)
theorem tt0_slices_IndexFunc_impl_Symbol_impl_Symbol {g : Nat} {t : Symbol → Option Bool} (hg : PureOK Tryd.prog g (C1 (fun c : Bool => enc c) t)) : PureOK Tryd.prog n_slices_IndexFunc_impl_Symbol_impl_Symbol (C2 (fun c : Int => enc c) (fun (q : Sl Symbol) (k : Clo0 g) => t_slices_IndexFunc_impl_Symbol_impl_Symbol ((fun _ : Clo0 g => t) k) q)) := pureC2 (Econs hg E0) mixed hb_slices_IndexFunc_impl_Symbol_impl_Symbol fun q k => ts_slices_IndexFunc_impl_Symbol_impl_Symbol _ (caps := fun _ => []) (P := (fun _ : Clo0 g => t)) (fun k a h => callP0 (by simp [envL]) (snapD_nr _ a rfl)) q k
theorem tt1_slices_IndexFunc_impl_Symbol_impl_Symbol {g : Nat} {X : Type} [Row X] {tp : Symbol → Pt X → Option Bool} (hg : PureOK Tryd.prog g (C2 (fun c : Bool => enc c) tp)) : PureOK Tryd.prog n_slices_IndexFunc_impl_Symbol_impl_Symbol (C2 (fun c : Int => enc c) (fun (q : Sl Symbol) (k : Clo g (Pt X)) => t_slices_IndexFunc_impl_Symbol_impl_Symbol ((fun (k : Clo g (Pt X)) a => tp a k.val) k) q)) := pureC2 (Econs hg E0) mixed hb_slices_IndexFunc_impl_Symbol_impl_Symbol fun q k => ts_slices_IndexFunc_impl_Symbol_impl_Symbol _ (caps := fun k : Clo g (Pt X) => [enc k.val]) (P := (fun (k : Clo g (Pt X)) a => tp a k.val)) (fun k a h => callP1 (by simp [envL]) (snapD_nr _ a rfl) (snapD_fptr _ _ _ _ rfl)) q k

def t_slices_ContainsFunc_impl_Symbol_impl_Symbol (p_ : Symbol → Option Bool) (s_ : Sl Symbol) : Option Bool :=
  obind (t_slices_IndexFunc_impl_Symbol_impl_Symbol p_ s_) fun c1 =>
  some (decide (0 ≤ c1))

theorem ts_slices_ContainsFunc_impl_Symbol_impl_Symbol (env : Nat → Contract) {K : Type} [Cod K] {g : Nat} {caps : K → List AV} {P : K → Symbol → Option Bool} (hs : ∀ k h, snapD h (AV.fn g (caps k)) = some k) (he_slices_IndexFunc_impl_Symbol_impl_Symbol : env n_slices_IndexFunc_impl_Symbol_impl_Symbol = .pure (C2 (fun c : Int => enc c) (fun (q : Sl Symbol) (k : K) => t_slices_IndexFunc_impl_Symbol_impl_Symbol (P k) q))) (s_ : Sl Symbol) (f_ : K) : Sim (denFn Tryd.prog env n_slices_ContainsFunc_impl_Symbol_impl_Symbol [Sl.enc s_, AV.fn g (caps f_)] []) (t_slices_ContainsFunc_impl_Symbol_impl_Symbol (P f_) s_) fun c p => release p.2 depth p.1 = some ((fun c : Bool => enc c) c) := by
  have O := Hold.nil []
  generalize hB : (⟨[], []⟩ : Base) = B at O
  clear hB
  rw [e_slices_ContainsFunc_impl_Symbol_impl_Symbol]
  unfold t_slices_ContainsFunc_impl_Symbol_impl_Symbol
  refine sim_call2 (t := fun (q : Sl Symbol) (k : K) => t_slices_IndexFunc_impl_Symbol_impl_Symbol (P k) q) he_slices_IndexFunc_impl_Symbol_impl_Symbol (snapD_enc _ _) (hs f_ _) (fun c1 => ?_)
  refine sim_let2 (hand_plain (by rfl) _ _) ?_
  refine sim_let (v := bv (decide (0 ≤ c1))) (aBin_geq _ _) ?_
  exact sim_ret (release_plain (by rfl) _)
theorem tt0_slices_ContainsFunc_impl_Symbol_impl_Symbol {g : Nat} {t : Symbol → Option Bool} (hg : PureOK Tryd.prog g (C1 (fun c : Bool => enc c) t)) : PureOK Tryd.prog n_slices_ContainsFunc_impl_Symbol_impl_Symbol (C2 (fun c : Bool => enc c) (fun (q : Sl Symbol) (k : Clo0 g) => t_slices_ContainsFunc_impl_Symbol_impl_Symbol ((fun _ : Clo0 g => t) k) q)) := pureC2 (Econs (tt0_slices_IndexFunc_impl_Symbol_impl_Symbol hg) E0) mixed hb_slices_ContainsFunc_impl_Symbol_impl_Symbol fun q k => ts_slices_ContainsFunc_impl_Symbol_impl_Symbol _ (caps := fun _ => []) (P := (fun _ : Clo0 g => t)) (fun k h => snapD_clo0 h g) (by simp [envL]) q k
theorem tt1_slices_ContainsFunc_impl_Symbol_impl_Symbol {g : Nat} {X : Type} [Row X] {tp : Symbol → Pt X → Option Bool} (hg : PureOK Tryd.prog g (C2 (fun c : Bool => enc c) tp)) : PureOK Tryd.prog n_slices_ContainsFunc_impl_Symbol_impl_Symbol (C2 (fun c : Bool => enc c) (fun (q : Sl Symbol) (k : Clo g (Pt X)) => t_slices_ContainsFunc_impl_Symbol_impl_Symbol ((fun (k : Clo g (Pt X)) a => tp a k.val) k) q)) := pureC2 (Econs (tt1_slices_IndexFunc_impl_Symbol_impl_Symbol hg) E0) mixed hb_slices_ContainsFunc_impl_Symbol_impl_Symbol fun q k => ts_slices_ContainsFunc_impl_Symbol_impl_Symbol _ (caps := fun k : Clo g (Pt X) => [enc k.val]) (P := (fun (k : Clo g (Pt X)) a => tp a k.val)) (fun k h => snapD_cloE h k) (by simp [envL]) q k

def t_impl_ValidSymbols (list_ : Sl Symbol) : Option Bool :=
  obind (bif decide ((((list_.getD []).length : Nat) : Int) ≤ 8) then (obind (t_slices_ContainsFunc_impl_Symbol_impl_Symbol (fun a => some ((fun s : Symbol => !okSym s) a)) list_) fun c2 => some (!c2)) else some false) fun c3 =>
  some (bif decide ((((list_.getD []).length : Nat) : Int) ≤ 8) then c3 else false)

theorem ts_impl_ValidSymbols (env : Nat → Contract) (he_slices_ContainsFunc_impl_Symbol_impl_Symbol : env n_slices_ContainsFunc_impl_Symbol_impl_Symbol = .pure (C2 (fun c : Bool => enc c) (fun (q : Sl Symbol) (k : Clo0 n_impl_ValidSymbols_1) => t_slices_ContainsFunc_impl_Symbol_impl_Symbol ((fun _ : Clo0 n_impl_ValidSymbols_1 => (fun a => some ((fun s : Symbol => !okSym s) a))) k) q))) (list_ : Sl Symbol) : Sim (denFn Tryd.prog env n_impl_ValidSymbols [Sl.enc list_] []) (t_impl_ValidSymbols list_) fun c p => release p.2 depth p.1 = some ((fun c : Bool => enc c) c) := by
  have O := Hold.nil []
  generalize hB : (⟨[], []⟩ : Base) = B at O
  clear hB
  rw [e_impl_ValidSymbols]
  unfold t_impl_ValidSymbols
  refine sim_let (v := iv (((list_.getD []).length : Nat) : Int)) (Tab.enc [] list_).len ?_
  refine sim_let (v := bv (decide ((((list_.getD []).length : Nat) : Int) ≤ 8))) (aBin_leq _ _) ?_
  refine sim_guardT (e := bv) (fun hb1 => ?_) (fun c3 => ?_)
  · refine sim_call2 (t := fun (q : Sl Symbol) (k : Clo0 n_impl_ValidSymbols_1) => t_slices_ContainsFunc_impl_Symbol_impl_Symbol ((fun _ : Clo0 n_impl_ValidSymbols_1 => (fun a => some ((fun s : Symbol => !okSym s) a))) k) q) he_slices_ContainsFunc_impl_Symbol_impl_Symbol (snapD_enc _ _) (snapD_clo0 _ _) (fun c2 => ?_)
    refine sim_let2 (hand_plain (by rfl) _ _) ?_
    refine sim_let (v := bv (!c2)) (aUn_not _) ?_
    exact sim_ret rfl
  · refine sim_let (v := bv (bif decide ((((list_.getD []).length : Nat) : Int) ≤ 8) then c3 else false)) (pick_b _ _ _) ?_
    exact sim_ret (release_plain (by rfl) _)
theorem tt_impl_ValidSymbols : PureOK Tryd.prog n_impl_ValidSymbols (C1 (fun c : Bool => enc c) t_impl_ValidSymbols) := pureC1 (Econs (tt0_slices_ContainsFunc_impl_Symbol_impl_Symbol (C1_T1 ok_impl_ValidSymbols_1)) E0) mixed hb_impl_ValidSymbols fun list_ => ts_impl_ValidSymbols _ (by simp [envL]) list_

/-- The source has been read up to `k` at most. -/
structure SK (s : l00Src) (k : Int) : Prop where
  lo : 0 ≤ s.pos
  hi : s.pos ≤ k

theorem SK.mono {s : l00Src} {k k' : Int} (h : SK s k) (hk : k ≤ k') : SK s k' := ⟨h.lo, by have := h.hi; omega⟩

theorem wr_succ {k n : Nat} (h : k < n) (hn : n ≤ 4294967296) : wr ((k : Int) + 1) = ((k + 1 : Nat) : Int) := by
  rw [wr_id (by omega) (by omega)]
  omega

theorem get_lt {A : Type} {l : List A} {k : Nat} {a : A} (h : l[k]? = some a) : k < l.length := (List.getElem?_eq_some_iff.1 h).1

/-- A point that is one; the points of a stroke that is one. -/
structure PtV (p : Point) : Prop where
  x0 : 0 ≤ p.x
  x1 : p.x ≤ 4095
  y0 : 0 ≤ p.y
  y1 : p.y ≤ 4095
  t0 : 0 ≤ p.t
  t1 : p.t ≤ 3600000

structure StV (l : List Point) : Prop where
  pts : ∀ p ∈ l, PtV p
  inc : ∀ (k : Nat) p q, l[k]? = some p → l[k + 1]? = some q → p.t < q.t
  n1 : 1 ≤ l.length
  n2 : l.length ≤ 60

/-- Points of a bounded size. -/
structure PtB (p : Point) : Prop where
  x0 : -10000000 ≤ p.x
  x1 : p.x ≤ 10000000
  y0 : -10000000 ≤ p.y
  y1 : p.y ≤ 10000000
  t0 : -10000000 ≤ p.t
  t1 : p.t ≤ 10000000

structure StB (s : Stroke) : Prop where
  n : (s.points.getD []).length ≤ 100
  pts : ∀ p ∈ s.points.getD [], PtB p

theorem PtV.b {p : Point} (h : PtV p) : PtB p := by
  obtain ⟨h1, h2, h3, h4, h5, h6⟩ := h
  exact ⟨by omega, by omega, by omega, by omega, by omega, by omega⟩

theorem StV.b {l : List Point} (h : StV l) : StB ⟨some l⟩ := ⟨Nat.le_trans h.n2 (by omega), fun p hp => (h.pts p hp).b⟩

/-- Ink that is one. -/
structure InkV (L : List Stroke) : Prop where
  st : ∀ s ∈ L, ∃ l, s = ⟨some l⟩ ∧ StV l
  inc : ∀ (k : Nat) l l', L[k]? = some ⟨some l⟩ → L[k + 1]? = some ⟨some l'⟩ → ∀ p ∈ l, ∀ q ∈ l', p.t < q.t
  n : L.length ≤ 16

theorem InkV.b {L : List Stroke} (h : InkV L) : ∀ x ∈ L, StB x := fun x hx => by
  obtain ⟨l, rfl, hl⟩ := h.st x hx
  exact hl.b

theorem firstL_no {A R : Type} {f : Nat → A → Option R} : ∀ {l : List A} {k : Nat}, firstL f l k = none → ∀ i a, l[i]? = some a → f (k + i) a = none
  | [], _, _, i, a, ha => by simp at ha
  | b :: l, k, h, i, a, ha => by
    unfold firstL at h
    cases e : f k b with
    | some r => rw [e] at h; cases h
    | none =>
      rw [e] at h
      cases i with
      | zero =>
        simp only [List.getElem?_cons_zero, Option.some.injEq] at ha
        subst ha
        exact e
      | succ i =>
        have := firstL_no h i a (by simpa using ha)
        rw [← this]
        congr 1
        omega

theorem firstL_so {A R : Type} {f : Nat → A → Option R} : ∀ {l : List A} {k : Nat} {r : R}, firstL f l k = some r → ∃ i a, f i a = some r
  | [], _, _, h => by cases h
  | b :: l, k, r, h => by
    unfold firstL at h
    cases e : f k b with
    | some r' => rw [e] at h; cases h; exact ⟨k, b, e⟩
    | none => rw [e] at h; exact firstL_so h

def pt (l : List Point) (i : Nat) : Point := l.getD i ⟨0, 0, 0⟩

/-- One pair lies ahead of another. -/
def Pre (p q i j : Nat) : Prop := (i = p + 1 ∧ j = q + 1) ∨ (i = p + 1 ∧ j = q) ∨ (i = p ∧ j = q + 1)

/-- A path's cost, from the first pair on. -/
inductive Pth (C : Nat → Nat → Int) (R : Nat → Nat → Prop) : Nat → Nat → Int → Prop
  | start : R 0 0 → Pth C R 0 0 (C 0 0)
  | step {p q i j : Nat} {c : Int} : Pth C R p q c → Pre p q i j → R i j → Pth C R i j (c + C i j)

theorem Pth.mono {C D : Nat → Nat → Int} {R S : Nat → Nat → Prop} {i j : Nat} {c : Int} (h : Pth C R i j c) (hR : ∀ p q, p ≤ i → q ≤ j → R p q → S p q) (hC : ∀ p q, p ≤ i → q ≤ j → C p q = D p q) : Pth D S i j c := by
  induction h with
  | start h =>
    rw [hC 0 0 (Nat.le_refl _) (Nat.le_refl _)]
    exact .start (hR 0 0 (Nat.le_refl _) (Nat.le_refl _) h)
  | @step p q i j c h1 h2 h3 ih =>
    have hle : p ≤ i ∧ q ≤ j := by rcases h2 with h | h | h <;> omega
    rw [hC i j (Nat.le_refl _) (Nat.le_refl _)]
    exact .step (ih (fun a b h4 h5 => hR a b (by omega) (by omega)) (fun a b h4 h5 => hC a b (by omega) (by omega))) h2 (hR i j (Nat.le_refl _) (Nat.le_refl _) h3)

/-- A table's entry. -/
def Val (T : List (Sl Int)) (p q : Nat) (v : Int) : Prop := ∃ row, T[p]? = some (some row) ∧ row[q]? = some v

theorem Val.set {T : List (Sl Int)} {i j p q : Nat} {row : List Int} {v w : Int} (hr : T[i]? = some (some row)) (hj : j < row.length) :
    Val (T.set i (some (row.set j w))) p q v ↔ (p = i ∧ q = j ∧ v = w) ∨ (¬ (p = i ∧ q = j) ∧ Val T p q v) := by
  have hi := get_lt hr
  unfold Val
  constructor
  · rintro ⟨r, h1, h2⟩
    by_cases c : i = p
    · subst c
      rw [List.getElem?_set_self hi] at h1
      cases h1
      by_cases d : j = q
      · subst d
        rw [List.getElem?_set_self hj] at h2
        cases h2
        exact .inl ⟨rfl, rfl, rfl⟩
      · rw [List.getElem?_set_ne d] at h2
        exact .inr ⟨fun h => d h.2.symm, row, hr, h2⟩
    · rw [List.getElem?_set_ne c] at h1
      exact .inr ⟨fun h => c h.1.symm, r, h1, h2⟩
  · rintro (⟨rfl, rfl, rfl⟩ | ⟨hne, r, h1, h2⟩)
    · exact ⟨_, List.getElem?_set_self hi, List.getElem?_set_self hj⟩
    · by_cases c : i = p
      · subst c
        rw [hr] at h1
        cases h1
        have d : j ≠ q := fun h => hne ⟨rfl, h.symm⟩
        exact ⟨_, List.getElem?_set_self hi, by rw [List.getElem?_set_ne d]; exact h2⟩
      · exact ⟨r, by rw [List.getElem?_set_ne c]; exact h1, h2⟩

def PVal (T : List (Sl Part)) (p q : Nat) (v : Part) : Prop := ∃ row, T[p]? = some (some row) ∧ row[q]? = some v

theorem PVal.set {T : List (Sl Part)} {i j p q : Nat} {row : List Part} {v w : Part} (hr : T[i]? = some (some row)) (hj : j < row.length) :
    PVal (T.set i (some (row.set j w))) p q v ↔ (p = i ∧ q = j ∧ v = w) ∨ (¬ (p = i ∧ q = j) ∧ PVal T p q v) := by
  have hi := get_lt hr
  unfold PVal
  constructor
  · rintro ⟨r, h1, h2⟩
    by_cases c : i = p
    · subst c
      rw [List.getElem?_set_self hi] at h1
      cases h1
      by_cases d : j = q
      · subst d
        rw [List.getElem?_set_self hj] at h2
        cases h2
        exact .inl ⟨rfl, rfl, rfl⟩
      · rw [List.getElem?_set_ne d] at h2
        exact .inr ⟨fun h => d h.2.symm, row, hr, h2⟩
    · rw [List.getElem?_set_ne c] at h1
      exact .inr ⟨fun h => c h.1.symm, r, h1, h2⟩
  · rintro (⟨rfl, rfl, rfl⟩ | ⟨hne, r, h1, h2⟩)
    · exact ⟨_, List.getElem?_set_self hi, List.getElem?_set_self hj⟩
    · by_cases c : i = p
      · subst c
        rw [hr] at h1
        cases h1
        have d : j ≠ q := fun h => hne ⟨rfl, h.symm⟩
        exact ⟨_, List.getElem?_set_self hi, by rw [List.getElem?_set_ne d]; exact h2⟩
      · exact ⟨r, by rw [List.getElem?_set_ne c]; exact h1, h2⟩

def d2 (a b : Point) : Int := (a.x - b.x) * (a.x - b.x) + (a.y - b.y) * (a.y - b.y)

def pbox (p : Point) : Box := ⟨p.x, p.y, p.x, p.y⟩

/-- One box is in another one. -/
structure InB (a b : Box) : Prop where
  x1 : b.x1 ≤ a.x1
  y1 : b.y1 ≤ a.y1
  x2 : a.x2 ≤ b.x2
  y2 : a.y2 ≤ b.y2

theorem InB.refl (a : Box) : InB a a := ⟨Int.le_refl _, Int.le_refl _, Int.le_refl _, Int.le_refl _⟩

theorem InB.trans {a b c : Box} (h : InB a b) (g : InB b c) : InB a c := ⟨Int.le_trans g.x1 h.x1, Int.le_trans g.y1 h.y1, Int.le_trans h.x2 g.x2, Int.le_trans h.y2 g.y2⟩

theorem PtV.box {p : Point} (h : PtV p) : InB (pbox p) ⟨0, 0, 4095, 4095⟩ := ⟨h.x0, h.y0, h.x1, h.y1⟩

def side (b : Box) : Int := max (max (b.x2 - b.x1) (b.y2 - b.y1)) 1

def fSy (_ : Nat) (b : Symbol) : Option Bool := bif !okSym b then some false else none

/-- The symbols are valid. -/
def okSys (l : List Symbol) : Bool := match firstL fSy l 0 with
  | none => decide (l.length ≤ 8)
  | some r => r

theorem fSy_some {l : List Symbol} {r : Bool} {k : Nat} (h : firstL fSy l k = some r) : r = false := by
  obtain ⟨i, a, hf⟩ := firstL_so h
  unfold fSy at hf
  cases h2 : okSym a <;> rw [h2] at hf <;> cases hf
  rfl

theorem validSys_ok (s : Sl Symbol) (hl : (s.getD []).length ≤ 4294967296) : t_impl_ValidSymbols s = some (okSys (s.getD [])) := by
  have lp := loopT_first (step := s0_slices_IndexFunc_impl_Symbol_impl_Symbol (fun a => some ((fun b : Symbol => !okSym b) a)) s) (s.getD []) (fun k a => bif !okSym a then some (k : Int) else none) (.inl ()) .inr
    (fun k a ha => by
      have hk := get_lt ha
      have c : (k : Int) < (((s.getD []).length : Nat) : Int) := by omega
      unfold s0_slices_IndexFunc_impl_Symbol_impl_Symbol
      simp only [c, decide_true, cond_true, getI_nat ha, obind_sm, wr_succ hk hl]
      cases okSym a <;> rfl)
    (by
      unfold s0_slices_IndexFunc_impl_Symbol_impl_Symbol
      simp only [Int.lt_irrefl, decide_false, cond_false])
  have key : ∀ (l : List Symbol) (k : Nat), (firstL (fun (k : Nat) a => bif !okSym a then some (k : Int) else none) l k = none ∧ firstL fSy l k = none) ∨ ∃ r, firstL (fun (k : Nat) a => bif !okSym a then some (k : Int) else none) l k = some r ∧ 0 ≤ r ∧ firstL fSy l k = some false := by
    intro l
    induction l with
    | nil => intro k; exact .inl ⟨rfl, rfl⟩
    | cons a l ih =>
      intro k
      unfold firstL fSy
      cases e : okSym a with
      | true =>
        simp only [Bool.not_true, cond_false]
        exact ih (k + 1)
      | false => exact .inr ⟨(k : Int), rfl, by omega, rfl⟩
  have cf : t_slices_ContainsFunc_impl_Symbol_impl_Symbol (fun a => some ((fun s : Symbol => !okSym s) a)) s = some (firstL fSy (s.getD []) 0).isSome := by
    unfold t_slices_ContainsFunc_impl_Symbol_impl_Symbol t_slices_IndexFunc_impl_Symbol_impl_Symbol
    rw [lp]
    rcases key (s.getD []) 0 with ⟨h1, h2⟩ | ⟨r, h1, h2, h3⟩
    · rw [h1, h2]
      simp
    · rw [h1, h3]
      simp [h2]
  have d : decide ((((s.getD []).length : Nat) : Int) ≤ 8) = decide ((s.getD []).length ≤ 8) := decide_eq_decide.2 (by omega)
  unfold t_impl_ValidSymbols okSys
  rw [cf, d]
  cases h : firstL fSy (s.getD []) 0 with
  | none => cases decide ((s.getD []).length ≤ 8) <;> rfl
  | some r =>
    have := fSy_some h
    subst this
    cases decide ((s.getD []).length ≤ 8) <;> rfl

theorem okSys_len {l : List Symbol} (h : okSys l = true) : l.length ≤ 8 := by
  unfold okSys at h
  cases e : firstL fSy l 0 with
  | some r =>
    rw [e] at h
    simp only at h
    rw [fSy_some e] at h
    cases h
  | none =>
    rw [e] at h
    exact of_decide_eq_true h

/-- The digits of a number; none for 0. -/
def digs (m : Nat) : List UInt8 := if m = 0 then [] else Lib.decDigits m

theorem digs_step {m : Nat} (h : 0 < m) : digs m = digs (m / 10) ++ [UInt8.ofNat (48 + m % 10)] := by
  unfold digs
  rw [if_neg (by omega)]
  by_cases c : m < 10
  · rw [Lib.decDigits, dif_pos c, if_pos (by omega), Nat.mod_eq_of_lt c]
    rfl
  · rw [Lib.decDigits, dif_neg c, if_neg (by omega)]

theorem byteI_small {n : Nat} (h : n < 256) : byteI (n : Int) = UInt8.ofNat n := by
  have h1 : IntKind.u8.wrap (n : Int) = (n : Int) := by
    simp only [IntKind.wrap, IntKind.bits, IntKind.signed]
    simp only [Bool.false_and, Bool.false_eq_true, if_false]
    omega
  unfold byteI
  rw [h1]
  simp [Nat.toUInt8]

theorem decLoop : ∀ (f : Nat) (k : Int) (w : Sl UInt8), k.natAbs < 10 ^ f → -9223372036854775808 ≤ k → k ≤ 9223372036854775807 → (w.getD []).length + f ≤ 1000 → ∃ q, loopT s0_spec_l01Dec (w, k) = some q ∧ q.getD [] = digs k.natAbs ++ w.getD [] := by
  intro f
  induction f with
  | zero =>
    intro k w h _ _ _
    have hk : k = 0 := by simp at h; omega
    subst hk
    exact ⟨w, loopT_end (by unfold s0_spec_l01Dec; simp), by simp [digs]⟩
  | succ f ih =>
    intro k w h h1 h2 h3
    by_cases hk : k = 0
    · subst hk
      exact ⟨w, loopT_end (by unfold s0_spec_l01Dec; simp), by simp [digs]⟩
    · have hp : 10 ^ (f + 1) = 10 * 10 ^ f := by rw [Nat.pow_succ, Nat.mul_comm]
      obtain ⟨m, hm⟩ : ∃ m, k.natAbs = m := ⟨_, rfl⟩
      have m0 : 0 < m := by omega
      have ds := digs_step m0
      have bs := byteI_small (n := 48 + m % 10) (by omega)
      have hb : (((48 + m % 10 : Nat) : Int)) = 48 + ((m % 10 : Nat) : Int) := by omega
      have ap : appO (some ([UInt8.ofNat (48 + m % 10)] : List UInt8)) (w.getD []) = some (appS (some [UInt8.ofNat (48 + m % 10)]) (w.getD [])) := appO_some (by simp; omega)
      have d0 : decide (k = 0) = false := decide_eq_false hk
      have go : ∀ k' : Int, k'.natAbs = m / 10 → -9223372036854775808 ≤ k' → k' ≤ 9223372036854775807 → s0_spec_l01Dec (w, k) = some (.inl (appS (some [UInt8.ofNat (48 + m % 10)]) (w.getD []), k')) → ∃ q, loopT s0_spec_l01Dec (w, k) = some q ∧ q.getD [] = digs k.natAbs ++ w.getD [] := by
        intro k' e1 e2 e3 e4
        rw [loopT_next e4]
        obtain ⟨q, q1, q2⟩ := ih k' (appS (some [UInt8.ofNat (48 + m % 10)]) (w.getD [])) (by omega) e2 e3 (by rw [appS_getD]; simp; omega)
        refine ⟨q, q1, ?_⟩
        rw [q2, appS_getD, e1, hm, ds]
        simp
      rcases Int.natAbs_eq k with e | e
      · rw [hm] at e
        have t1 : Int.tmod k 10 = ((m % 10 : Nat) : Int) := by rw [e]; exact (Int.ofNat_tmod m 10).symm
        have t2 : Int.tdiv k 10 = ((m / 10 : Nat) : Int) := by rw [e]; exact (Int.ofNat_tdiv m 10).symm
        refine go ((m / 10 : Nat) : Int) (by omega) (by omega) (by omega) ?_
        have c1 : decide (((m % 10 : Nat) : Int) < 0) = false := decide_eq_false (by omega)
        unfold s0_spec_l01Dec
        simp only [d0, Bool.not_false, cond_true, t1, t2, c1, cond_false]
        rw [wr_id (by omega) (by omega), wr_id (by omega) (by omega), ← hb, bs, ap]
        rfl
      · rw [hm] at e
        have t1 : Int.tmod k 10 = -((m % 10 : Nat) : Int) := by rw [e, Int.neg_tmod]; exact congrArg _ (Int.ofNat_tmod m 10).symm
        have t2 : Int.tdiv k 10 = -((m / 10 : Nat) : Int) := by rw [e, Int.neg_tdiv]; exact congrArg _ (Int.ofNat_tdiv m 10).symm
        refine go (-((m / 10 : Nat) : Int)) (by omega) (by omega) (by omega) ?_
        unfold s0_spec_l01Dec
        simp only [d0, Bool.not_false, cond_true, t1, t2]
        have wq : wr (-((m / 10 : Nat) : Int)) = -((m / 10 : Nat) : Int) := wr_id (by omega) (by omega)
        rw [wq]
        by_cases c : m % 10 = 0
        · have c1 : decide (-((m % 10 : Nat) : Int) < 0) = false := decide_eq_false (by omega)
          have w1 : wr (48 + -((m % 10 : Nat) : Int)) = ((48 + m % 10 : Nat) : Int) := by rw [wr_id (by omega) (by omega)]; omega
          rw [c1, cond_false, w1, bs, ap]
          rfl
        · have c1 : decide (-((m % 10 : Nat) : Int) < 0) = true := decide_eq_true (by omega)
          have w0 : wr (0 - -((m % 10 : Nat) : Int)) = ((m % 10 : Nat) : Int) := by rw [wr_id (by omega) (by omega)]; omega
          have w1 : wr (48 + ((m % 10 : Nat) : Int)) = ((48 + m % 10 : Nat) : Int) := by rw [wr_id (by omega) (by omega)]; omega
          rw [c1, cond_true, w0, w1, bs, ap]
          rfl

theorem strL_app (a b : List UInt8) : strL a ++ strL b = strL (a ++ b) := by
  unfold strL
  apply ByteArray.ext
  simp

theorem strL_size (a : List UInt8) : (strL a).size = a.length := by
  unfold strL
  rfl

theorem bl_strL (a : List UInt8) : bl (strL a) = a := by simp [bl, strL]

theorem strL_bl (s : ByteArray) : strL (bl s) = s := by
  unfold strL bl
  rfl

theorem catO_some {a b : ByteArray} (h : a.size + b.size ≤ 4294967296) : catO a b = some (a ++ b) := by
  unfold catO
  rw [if_pos (by omega)]

theorem digs_len : ∀ (f m : Nat), m < 10 ^ f → (digs m).length ≤ f
  | 0, m, h => by
    have : m = 0 := by simp at h; omega
    subst this
    simp [digs]
  | f + 1, m, h => by
    have hp : 10 ^ (f + 1) = 10 * 10 ^ f := by rw [Nat.pow_succ, Nat.mul_comm]
    by_cases m0 : m = 0
    · subst m0; simp [digs]
    · have := digs_len f (m / 10) (by omega)
      rw [digs_step (by omega)]
      simp
      omega

theorem digs_pos {m : Nat} (h : 0 < m) : 0 < (digs m).length := by
  rw [digs_step h]
  simp

theorem l01Dec_ok {n : Int} (h0 : -9223372036854775808 ≤ n) (h1 : n ≤ 9223372036854775807) : t_spec_l01Dec n = some (itS n) ∧ (itS n).size ≤ 20 := by
  obtain ⟨q, q1, q2⟩ := decLoop 19 n (some []) (by omega) h0 h1 (by simp)
  rw [Option.getD_some, List.append_nil] at q2
  have dl := digs_len 19 n.natAbs (by omega)
  unfold t_spec_l01Dec
  rw [q1, obind_sm, q2]
  by_cases c : n = 0
  · subst c
    refine ⟨?_, ?_⟩
    · have e : digs (Int.natAbs 0) = [] := rfl
      rw [e]
      have e2 : itS 0 = (⟨#[48]⟩ : ByteArray) := by
        unfold itS Lib.itoa
        rw [if_neg (by decide), Lib.decDigits, dif_pos (by decide)]
        rfl
      rw [e2]
      rfl
    · have e2 : itS 0 = (⟨#[48]⟩ : ByteArray) := by
        unfold itS Lib.itoa
        rw [if_neg (by decide), Lib.decDigits, dif_pos (by decide)]
        rfl
      rw [e2]
      decide
  · have p := digs_pos (m := n.natAbs) (by omega)
    have d1 : decide ((((digs n.natAbs).length : Nat) : Int) = 0) = false := decide_eq_false (by omega)
    have dd : digs n.natAbs = Lib.decDigits n.natAbs := by unfold digs; rw [if_neg (by omega)]
    rw [d1, cond_false]
    by_cases c2 : n < 0
    · have e2 : itS n = strL (45 :: digs n.natAbs) := by
        unfold itS Lib.itoa
        rw [if_pos c2, dd]
      have e3 : (⟨#[45]⟩ : ByteArray) = strL [45] := rfl
      rw [decide_eq_true c2, cond_true, e3, catO_some (by rw [strL_size, strL_size]; simp; omega), strL_app, obind_sm, e2]
      exact ⟨rfl, by rw [strL_size]; simp; omega⟩
    · have e2 : itS n = strL (digs n.natAbs) := by
        unfold itS Lib.itoa
        rw [if_neg c2, dd]
        have : n.toNat = n.natAbs := by omega
        rw [this]
      rw [decide_eq_false c2, cond_false, e2]
      exact ⟨rfl, by rw [strL_size]; omega⟩

theorem decimal_ok {n : Int} (h0 : -9223372036854775808 ≤ n) (h1 : n ≤ 9223372036854775807) : t_impl_Decimal n = some (itS n) := by
  unfold t_impl_Decimal fmtO
  rw [decide_eq_true h0, decide_eq_true h1]
  rfl

/-- A table is built, element by element. -/
theorem mapLoop {A B : Type} (d : B) (f : A → B) (l : List A) (hl : l.length ≤ 4294967296) (step : ((Sl B) × Int) → Option (Sum ((Sl B) × Int) (Sl B)))
    (next : ∀ (M : List B) (k : Nat) (a : A), M.length = l.length → l[k]? = some a → step (some M, (k : Int)) = some (.inl (some (M.set k (f a)), wr ((k : Int) + 1))))
    (fin : ∀ w : Sl B, step (w, ((l.length : Nat) : Int)) = some (.inr w)) : loopT step (some (List.replicate l.length d), 0) = some (some (l.map f)) := by
  obtain ⟨r, h1, h2⟩ := loopT_ex (step := step) (fun k t => ∃ M, t = (some M, (k : Int)) ∧ M.length = l.length ∧ ∀ j, j < k → M[j]? = (l.map f)[j]?) l.length (fun r => r = some (l.map f))
    (fun k t hk ht => by
      obtain ⟨M, rfl, m1, m2⟩ := ht
      obtain ⟨a, ha⟩ : ∃ a, l[k]? = some a := ⟨l[k], List.getElem?_eq_getElem hk⟩
      have e := next M k a m1 ha
      rw [wr_succ hk hl] at e
      refine .inl ⟨_, e, _, rfl, by rw [List.length_set, m1], fun j hj => ?_⟩
      by_cases c : j = k
      · subst c
        rw [List.getElem?_set_self (by omega), List.getElem?_map, ha]
        rfl
      · rw [List.getElem?_set_ne (fun h => c h.symm)]
        exact m2 j (by omega))
    (fun t ht => by
      obtain ⟨M, rfl, m1, m2⟩ := ht
      refine ⟨_, fin _, ?_⟩
      congr 1
      apply List.ext_getElem?
      intro j
      by_cases c : j < l.length
      · exact m2 j c
      · rw [List.getElem?_eq_none (by omega), List.getElem?_eq_none (by simp; omega)])
    (s := (some (List.replicate l.length d), 0)) ⟨_, rfl, by simp, fun j hj => by omega⟩
  rw [h1, h2]

theorem make_len {A : Type} (d : A) {n : Nat} (h : n ≤ 4294967296) : makeO d ((n : Nat) : Int) = some (List.replicate n d) := by
  unfold makeO
  rw [if_pos ⟨by omega, by omega⟩, Int.toNat_natCast]

/-- All elements are alike. -/
theorem eqLoop {step : Int → Option (Sum Int (Sum Unit Bool))} (n : Nat) (hn : n ≤ 4294967296) (next : ∀ k : Nat, k < n → step (k : Int) = some (.inl (wr ((k : Int) + 1)))) (fin : step ((n : Nat) : Int) = some (.inr (.inl ()))) : loopT step 0 = some (.inl ()) := by
  obtain ⟨r, h1, h2⟩ := loopT_ex (step := step) (fun k t => t = (k : Int)) n (fun r => r = .inl ())
    (fun k t hk ht => by
      subst ht
      have e := next k hk
      rw [wr_succ hk hn] at e
      exact .inl ⟨_, e, rfl⟩)
    (fun t ht => by
      subst ht
      exact ⟨_, fin, rfl⟩) (s := 0) rfl
  rw [h1, h2]

/-- Sizes are counted down. -/
theorem szLoop {A : Type} (wt : A → Nat) (l : List A) (hl : l.length ≤ 1048576) (step : (Int × Int) → Option (Sum (Int × Int) (Sum Int Int)))
    (next : ∀ (w : Int) (k : Nat) (a : A), 0 ≤ w → w ≤ 1048576 → l[k]? = some a → step (w, (k : Int)) = some (.inr (.inr (-1))) ∨ ((wt a : Nat) : Int) ≤ w ∧ step (w, (k : Int)) = some (.inl (w - ((wt a : Nat) : Int), wr ((k : Int) + 1))))
    (fin : ∀ w, step (w, ((l.length : Nat) : Int)) = some (.inr (.inl w))) {w0 : Int} (h0 : 0 ≤ w0) (h1 : w0 ≤ 1048576) :
    loopT step (w0, 0) = some (.inr (-1)) ∨ ∃ r, loopT step (w0, 0) = some (.inl r) ∧ 0 ≤ r ∧ r = w0 - (((l.map wt).sum : Nat) : Int) := by
  obtain ⟨r, e, h⟩ := loopT_ex (step := step) (fun k t => ∃ w, t = (w, (k : Int)) ∧ 0 ≤ w ∧ w = w0 - ((((l.take k).map wt).sum : Nat) : Int)) l.length (fun r => r = .inr (-1) ∨ ∃ w, r = .inl w ∧ 0 ≤ w ∧ w = w0 - (((l.map wt).sum : Nat) : Int))
    (fun k t hk ⟨w, ht, w1, w2⟩ => by
      subst ht
      obtain ⟨a, ha⟩ : ∃ a, l[k]? = some a := ⟨l[k], List.getElem?_eq_getElem hk⟩
      rcases next w k a w1 (by omega) ha with h | ⟨h2, h⟩
      · exact .inr ⟨_, h, .inl rfl⟩
      · rw [wr_succ hk (show l.length ≤ 4294967296 by omega)] at h
        refine .inl ⟨_, h, _, rfl, by omega, ?_⟩
        have e1 : l.take (k + 1) = l.take k ++ [a] := by
          rw [List.take_succ_eq_append_getElem hk]
          rw [List.getElem?_eq_getElem hk] at ha
          rw [Option.some.inj ha]
        rw [e1, List.map_append, List.sum_append, List.map_cons, List.map_nil, List.sum_cons, List.sum_nil]
        omega)
    (fun t ⟨w, ht, w1, w2⟩ => by
      subst ht
      rw [List.take_length] at w2
      exact ⟨_, fin w, .inr ⟨w, rfl, w1, w2⟩⟩)
    (s := (w0, 0)) ⟨w0, rfl, h0, by simp⟩
  rcases h with rfl | ⟨w, rfl, w1, w2⟩
  · exact .inl e
  · exact .inr ⟨w, e, w1, w2⟩

/-- A size function counts down a weight. -/
def SzOK {A : Type} (t : A → Int → Option Int) (wt : A → Nat) (a : A) : Prop := ∀ k : Int, 0 ≤ k → k ≤ 1048576 → t a k = some (-1) ∨ ((wt a : Nat) : Int) ≤ k ∧ t a k = some (k - ((wt a : Nat) : Int))

def wtS {A : Type} (wt : A → Nat) (s : Sl A) : Nat := (s.getD []).length + ((s.getD []).map wt).sum

theorem wt_mem {A : Type} {wt : A → Nat} {s : Sl A} {a : A} (h : a ∈ s.getD []) : wt a ≤ wtS wt s := by
  have : ∀ l : List A, a ∈ l → wt a ≤ (l.map wt).sum := by
    intro l
    induction l with
    | nil => intro h; cases h
    | cons b l ih =>
      intro h
      rw [List.map_cons, List.sum_cons]
      rcases List.mem_cons.1 h with rfl | h
      · omega
      · have := ih h
        omega
  have := this _ h
  unfold wtS
  omega

theorem szS_ok {A : Type} {wt : A → Nat} {te : A → Int → Option Int} {s : Sl A} (hb : (s.getD []).length ≤ maxLen) (he : ∀ a ∈ s.getD [], SzOK te wt a) {t : Sl A → Int → Option Int} {step : (Int × Int) → Option (Sum (Int × Int) (Sum Int Int))}
    (ht : ∀ k, t s k = bif decide ((wr (k - (((s.getD []).length : Nat) : Int))) < 0) then some (-1) else obind (loopT step (wr (k - (((s.getD []).length : Nat) : Int)), 0)) fun q => match q with | .inl q => some q | .inr q => some q)
    (hs : ∀ (w : Int) (i : Nat) (a : A), (s.getD [])[i]? = some a → step (w, (i : Int)) = obind (te a w) fun c => bif decide (c < 0) then some (.inr (.inr (-1))) else some (.inl (c, wr ((i : Int) + 1))))
    (hf : ∀ w, step (w, (((s.getD []).length : Nat) : Int)) = some (.inr (.inl w))) : SzOK t (wtS wt) s := by
  intro k h0 h1
  rw [maxLen_eq] at hb
  have ws : wr (k - (((s.getD []).length : Nat) : Int)) = k - (((s.getD []).length : Nat) : Int) := wr_id (by omega) (by omega)
  rw [ht, ws]
  by_cases c : k - (((s.getD []).length : Nat) : Int) < 0
  · left
    rw [decide_eq_true c, cond_true]
  · rw [decide_eq_false c, cond_false]
    rcases szLoop wt (s.getD []) (by omega) step (fun w i a w0 w1 ha => by
      rw [hs w i a ha]
      rcases he a (List.mem_of_getElem? ha) w w0 w1 with h | ⟨h2, h⟩
      · left
        rw [h]
        rfl
      · right
        refine ⟨h2, ?_⟩
        rw [h, obind_sm, decide_eq_false (show ¬ w - ((wt a : Nat) : Int) < 0 by omega), cond_false]) hf (w0 := k - (((s.getD []).length : Nat) : Int)) (by omega) (by omega) with h | ⟨r, h, h2, h3⟩
    · left
      rw [h]
      rfl
    · right
      rw [h]
      have hw : ((wtS wt s : Nat) : Int) = (((s.getD []).length : Nat) : Int) + ((((s.getD []).map wt).sum : Nat) : Int) := by unfold wtS; omega
      refine ⟨by omega, ?_⟩
      rw [obind_sm]
      refine congrArg some ?_
      omega

theorem sz_str {n : Nat} {k : Int} (hn : n ≤ maxLen) (h1 : k ≤ 1048576) (h0 : 0 ≤ k) : wr (k - (n : Int)) = k - (n : Int) := by
  rw [maxLen_eq] at hn
  exact wr_id (by omega) (by omega)

theorem toBigramS_ok (a : Sl Bigram) (hl : (a.getD []).length ≤ 4294967296) : t_laws_toBigramS a = some (some ((a.getD []).map (fun x : Bigram => x))) := by
  have lp := mapLoop (⟨⟨#[]⟩, ⟨#[]⟩, 0⟩ : Bigram) (fun x : Bigram => x) (a.getD []) hl (s0_laws_toBigramS a) (fun M k x hM hx => by
    have hk := get_lt hx
    have c : (k : Int) < (((a.getD []).length : Nat) : Int) := by omega
    obtain ⟨y, hy⟩ : ∃ y, M[k]? = some y := ⟨M[k]'(by omega), List.getElem?_eq_getElem _⟩
    unfold s0_laws_toBigramS
    simp only [c, decide_true, cond_true, getI_nat hx, obind_sm, Option.getD_some, getI_nat hy, setS, Option.map_some, Int.toNat_natCast]) (fun w => by
    unfold s0_laws_toBigramS
    simp only [Int.lt_irrefl, decide_false, cond_false])
  unfold t_laws_toBigramS
  rw [make_len _ hl, obind_sm, lp, obind_sm]

theorem eqBigramS_ok {a b : Sl Bigram} (h : a.getD [] = b.getD []) (hl : (a.getD []).length ≤ 4294967296) : t_laws_eqBigramS a b = some true := by
  have lp := eqLoop (step := s0_laws_eqBigramS a b) (a.getD []).length hl (fun k hk => by
      have c : (k : Int) < ((a.getD []).length : Nat) := by omega
      obtain ⟨x, hx⟩ : ∃ x, (a.getD [])[k]? = some x := ⟨_, List.getElem?_eq_getElem hk⟩
      unfold s0_laws_eqBigramS
      simp only [c, decide_true, cond_true, getI_nat hx, ← h, obind_sm, Bool.not_true, cond_false])
    (by
      unfold s0_laws_eqBigramS
      simp only [Int.lt_irrefl, decide_false, cond_false])
  unfold t_laws_eqBigramS
  rw [lp, ← h]
  simp

theorem szBigram_ok {e : Bigram} (h : e.first.size ≤ maxLen) (h2 : e.second.size ≤ maxLen) : SzOK t_laws_szBigram (fun e => e.first.size + e.second.size) e := fun k h0 h1 => by
  unfold t_laws_szBigram
  rw [sz_str h h1 h0]
  by_cases c : k - (e.first.size : Int) < 0
  · left
    rw [decide_eq_true c, cond_true]
  · rw [decide_eq_false c, cond_false, sz_str h2 (by omega) (by omega)]
    by_cases c2 : k - (e.first.size : Int) - (e.second.size : Int) < 0
    · left
      rw [decide_eq_true c2, cond_true]
    · right
      rw [decide_eq_false c2, cond_false]
      exact ⟨by show ((e.first.size + e.second.size : Nat) : Int) ≤ k; omega, congrArg some (by show k - (e.first.size : Int) - (e.second.size : Int) = k - ((e.first.size + e.second.size : Nat) : Int); omega)⟩

theorem szBigramS_ok {s : Sl Bigram} (hb : (s.getD []).length ≤ maxLen) (he : ∀ a ∈ s.getD [], a.first.size ≤ maxLen ∧ a.second.size ≤ maxLen) : SzOK t_laws_szBigramS (wtS (fun e => e.first.size + e.second.size)) s :=
  szS_ok (te := t_laws_szBigram) hb (fun a ha => szBigram_ok (he a ha).1 (he a ha).2) (step := s0_laws_szBigramS s) (fun k => rfl) (fun w i a ha => by
    have hk := get_lt ha
    have c : (i : Int) < (((s.getD []).length : Nat) : Int) := by omega
    unfold s0_laws_szBigramS
    simp only [c, decide_true, cond_true, getI_nat ha, obind_sm]) (fun w => by
    unfold s0_laws_szBigramS
    simp only [Int.lt_irrefl, decide_false, cond_false])

theorem sz_wrap {A B : Type} {t : B → Int → Option Int} {wt : B → Nat} {f : A → B} {a : A} (h : SzOK t wt (f a)) {t' : A → Int → Option Int} (ht : ∀ k, t' a k = obind (t (f a) k) fun c => bif decide (c < 0) then some (-1) else some c) : SzOK t' (fun a => wt (f a)) a := fun k h0 h1 => by
  rw [ht]
  rcases h k h0 h1 with e | ⟨h2, e⟩
  · left
    rw [e]
    rfl
  · right
    rw [e, obind_sm, decide_eq_false (show ¬ k - ((wt (f a) : Nat) : Int) < 0 by omega)]
    exact ⟨h2, rfl⟩

def wtMod (l : Model) : Nat := wtS (fun e : Bigram => e.first.size + e.second.size) l.bigrams

theorem szModel_ok {l : Model} (hb : (l.bigrams.getD []).length ≤ maxLen) (he : ∀ a ∈ l.bigrams.getD [], a.first.size ≤ maxLen ∧ a.second.size ≤ maxLen) : SzOK t_laws_szModel wtMod l := sz_wrap (f := Model.bigrams) (szBigramS_ok hb he) fun k => rfl

theorem toModel_ok (m : Model) (h : (m.bigrams.getD []).length ≤ 4294967296) : t_laws_toModel m = some ⟨m.default, some (m.bigrams.getD [])⟩ := by
  unfold t_laws_toModel
  rw [toBigramS_ok _ h, obind_sm, List.map_id']

theorem eqModel_ok (m : Model) (h : (m.bigrams.getD []).length ≤ 4294967296) : t_laws_eqModel m m = some true := by
  unfold t_laws_eqModel
  rw [eqBigramS_ok rfl h]
  simp

/-! ### Valid lattices, lexicons and models -/
theorem bytesO_some {s : ByteArray} (h : s.size ≤ 4294967296) : bytesO s = some (bl s) := by
  unfold bytesO
  rw [if_pos h]

theorem getB_bl {s : ByteArray} {k : Nat} {b : UInt8} (h : (bl s)[k]? = some b) : getB s (k : Int) = some b := getI_nat h

def fLow (_ : Nat) (b : UInt8) : Option Bool := bif !isLow b then some false else none

theorem fLow_all : ∀ (l : List UInt8) (k : Nat), firstL fLow l k = bif l.all isLow then none else some false
  | [], _ => rfl
  | b :: l, k => by
    unfold firstL fLow
    rw [List.all_cons]
    cases e : isLow b with
    | false => rfl
    | true =>
      have := fLow_all l (k + 1)
      unfold fLow at this
      simpa using this

theorem implWord_ok {s : ByteArray} (h : s.size ≤ 4294967296) : t_impl_IsWord s = some (isWord s) := by
  have hl : (bl s).length ≤ 4294967296 := by rw [bl_len]; exact h
  have lp := loopT_first (step := s0_impl_IsWord (bl s)) (bl s) fLow (.inl ()) .inr
    (fun k a ha => by
      have hk := get_lt ha
      have c : (k : Int) < (((bl s).length : Nat) : Int) := by omega
      unfold s0_impl_IsWord fLow
      simp only [Option.getD_some, c, decide_true, cond_true, getI_nat ha, obind_sm, wr_succ hk hl]
      cases isLow a <;> rfl)
    (by
      unfold s0_impl_IsWord
      simp only [Option.getD_some, Int.lt_irrefl, decide_false, cond_false])
  rw [fLow_all] at lp
  unfold t_impl_IsWord isWord
  rw [bytesO_some h, obind_sm, lp]
  have d1 : decide (1 ≤ (s.size : Int)) = decide (1 ≤ s.size) := decide_eq_decide.2 (by omega)
  have d2 : decide ((s.size : Int) ≤ 10) = decide (s.size ≤ 10) := decide_eq_decide.2 (by omega)
  rw [d1, d2]
  cases (bl s).all isLow with
  | false => rfl
  | true => cases decide (1 ≤ s.size) <;> rfl

theorem specWord_ok {s : ByteArray} (h : s.size ≤ 4294967296) : t_spec_IsWord s = some (isWord s) := by
  have hl : (bl s).length ≤ 4294967296 := by rw [bl_len]; exact h
  have lp := loopT_first (step := s0_spec_IsWord s) (bl s) fLow (.inl ()) .inr
    (fun k a ha => by
      have hk := get_lt ha
      have c : (k : Int) < (s.size : Int) := by rw [bl_len] at hk; omega
      unfold s0_spec_IsWord fLow
      simp only [c, decide_true, cond_true, getB_bl ha, obind_sm, wr_succ hk hl]
      cases isLow a <;> rfl)
    (by
      unfold s0_spec_IsWord
      rw [bl_len]
      simp only [Int.lt_irrefl, decide_false, cond_false])
  rw [fLow_all] at lp
  unfold t_spec_IsWord isWord
  rw [lp]
  have d1 : within (s.size : Int) 1 10 = (decide (1 ≤ s.size) && decide (s.size ≤ 10)) := by
    unfold within
    congr 1 <;> exact decide_eq_decide.2 (by omega)
  rw [d1]
  cases (bl s).all isLow with
  | false => rfl
  | true => rfl

/-- A list is checked from the front, each element against the one ahead of it. -/
def fAdj {A : Type} (ok : A → Bool) (lt : A → A → Bool) (l : List A) (k : Nat) (a : A) : Option Bool :=
  bif ok a && (decide (k = 0) || (match l[k - 1]? with | some b => lt b a | none => true)) then none else some false

/-- .. what the check says: all elements are well, and each is behind the one ahead of it. -/
def adj {A : Type} (ok : A → Bool) (lt : A → A → Bool) (l : List A) : Bool := match firstL (fAdj ok lt l) l 0 with
  | none => true
  | some r => r

theorem firstL_false {A : Type} {f : Nat → A → Option Bool} (hf : ∀ k a r, f k a = some r → r = false) {l : List A} {k : Nat} {r : Bool} (h : firstL f l k = some r) : r = false := by
  obtain ⟨i, a, e⟩ := firstL_so h
  exact hf _ _ _ e

theorem fAdj_false {A : Type} {ok : A → Bool} {lt : A → A → Bool} {l : List A} {k : Nat} {a : A} {r : Bool} (h : fAdj ok lt l k a = some r) : r = false := by
  unfold fAdj at h
  split at h <;> (cases h' : (ok a && _) <;> rw [h'] at h <;> cases h; rfl)

theorem adjLoop {A : Type} (ok : A → Bool) (lt : A → A → Bool) (l : List A) (hl : l.length ≤ 4294967296) {step : Int → Option (Sum Int (Sum Unit Bool))}
    (next : ∀ (k : Nat) a, l[k]? = some a → (∀ b, 0 < k → l[k - 1]? = some b → True) → step (k : Int) = some (bif ok a && (decide (k = 0) || (match l[k - 1]? with | some b => lt b a | none => true)) then .inl (wr ((k : Int) + 1)) else .inr (.inr false)))
    (fin : step ((l.length : Nat) : Int) = some (.inr (.inl ()))) : loopT step 0 = some (bif adj ok lt l then .inl () else .inr false) := by
  have lp := loopT_first (step := step) l (fAdj ok lt l) (.inl ()) .inr
    (fun k a ha => by
      have hk := get_lt ha
      have e := next k a ha fun _ _ _ => trivial
      rw [wr_succ hk hl] at e
      rw [e]
      unfold fAdj
      cases (ok a && (decide (k = 0) || (match l[k - 1]? with | some b => lt b a | none => true))) <;> rfl) fin
  rw [lp]
  unfold adj
  cases e : firstL (fAdj ok lt l) l 0 with
  | none => rfl
  | some r =>
    have := firstL_false (fun k a r => fAdj_false) e
    subst this
    rfl

theorem adj_all {A : Type} {ok : A → Bool} {lt : A → A → Bool} {l : List A} (h : adj ok lt l = true) : (∀ a ∈ l, ok a = true) ∧ ∀ (k : Nat) a b, l[k]? = some a → l[k + 1]? = some b → lt a b = true := by
  have hn : firstL (fAdj ok lt l) l 0 = none := by
    unfold adj at h
    cases e : firstL (fAdj ok lt l) l 0 with
    | none => rfl
    | some r =>
      rw [e] at h
      have := firstL_false (fun k a r => fAdj_false) e
      subst this
      cases h
  have key := firstL_no hn
  have k2 : ∀ (i : Nat) a, l[i]? = some a → (ok a && (decide (i = 0) || (match l[i - 1]? with | some b => lt b a | none => true))) = true := fun i a ha => by
    have := key i a ha
    rw [Nat.zero_add] at this
    unfold fAdj at this
    cases e : (ok a && (decide (i = 0) || (match l[i - 1]? with | some b => lt b a | none => true))) with
    | true => rfl
    | false => rw [e] at this; cases this
  refine ⟨fun a ha => ?_, fun k a b ha hb => ?_⟩
  · obtain ⟨i, hi⟩ := List.mem_iff_getElem?.1 ha
    have := k2 i a hi
    rw [Bool.and_eq_true] at this
    exact this.1
  · have := k2 (k + 1) b hb
    rw [Nat.add_sub_cancel, ha] at this
    simp at this
    exact this.2

/-! ### Models and lattices -/
theorem pred_getA {A : Type} {l : List A} {k : Nat} (h0 : k ≠ 0) (hk : k < l.length) (hl : l.length ≤ 4294967296) : ∃ b, l[k - 1]? = some b ∧ getI l (wr ((k : Int) - 1)) = some b := by
  obtain ⟨b, hb⟩ : ∃ b, l[k - 1]? = some b := ⟨_, List.getElem?_eq_getElem (by omega)⟩
  refine ⟨b, hb, ?_⟩
  have : wr ((k : Int) - 1) = ((k - 1 : Nat) : Int) := by rw [wr_id (by omega) (by omega)]; omega
  rw [this]
  exact getI_nat hb

theorem implBig_ok {b : Bigram} (h1 : b.first.size ≤ 4294967296) (h2 : b.second.size ≤ 4294967296) : t_impl_validBigram b = some (validBigram b) := by
  unfold t_impl_validBigram validBigram isFirst
  rw [implWord_ok h1, implWord_ok h2]
  cases isWord b.second <;> cases decide (b.first = (⟨#[]⟩ : ByteArray)) <;> cases isWord b.first <;> rfl

theorem specFirst_ok {s : ByteArray} (h1 : s.size ≤ 4294967296) : t_spec_l18First s = some (isFirst s) := by
  unfold t_spec_l18First isFirst
  rw [specWord_ok h1]
  cases decide (s = (⟨#[]⟩ : ByteArray)) <;> rfl

theorem specBig_ok {b : Bigram} (h1 : b.first.size ≤ 4294967296) (h2 : b.second.size ≤ 4294967296) : t_spec_l18Bigram b = some (validBigram b) := by
  unfold t_spec_l18Bigram validBigram
  rw [specFirst_ok h1, specWord_ok h2]
  cases isWord b.second <;> cases isFirst b.first <;> rfl

theorem specBefore_ok (a b : Bigram) : t_spec_l18Before a b = some (before a b) := by
  unfold t_spec_l18Before before
  cases ltS a.first b.first <;> cases decide (a.first = b.first) <;> rfl

def modB (m : Model) : Bool := adj validBigram before (m.bigrams.getD []) && (within m.default 0 1000000 && decide ((m.bigrams.getD []).length ≤ 60))

def smallBigs (m : Model) : Prop := (m.bigrams.getD []).length ≤ 4294967296 ∧ ∀ b ∈ m.bigrams.getD [], b.first.size ≤ 4294967296 ∧ b.second.size ≤ 4294967296

theorem implMod_ok {m : Model} (hs : smallBigs m) : t_impl_ValidModel m = some (modB m) := by
  obtain ⟨hl, hw⟩ := hs
  have lp := adjLoop validBigram before (m.bigrams.getD []) hl (step := s0_impl_ValidModel m) (fun k a ha _ => by
      have hk := get_lt ha
      have c : (k : Int) < (((m.bigrams.getD []).length : Nat) : Int) := by omega
      have w := implBig_ok (hw a (List.mem_of_getElem? ha)).1 (hw a (List.mem_of_getElem? ha)).2
      unfold s0_impl_ValidModel
      simp only [c, decide_true, cond_true, getI_nat ha, obind_sm, w]
      cases validBigram a with
      | false => rfl
      | true =>
        by_cases k0 : k = 0
        · subst k0
          rfl
        · obtain ⟨b, hb, gb⟩ := pred_getA k0 hk hl
          have d : decide ((0 : Int) < (k : Int)) = true := decide_eq_true (by omega)
          have d2 : decide (k = 0) = false := decide_eq_false k0
          simp only [Bool.not_true, cond_false, obind_sm, d, d2, Bool.not_false, Bool.and_self, cond_true, gb, hb, Bool.true_and, Bool.false_or, cmpB_before]
          cases before b a <;> rfl)
    (by
      unfold s0_impl_ValidModel
      simp only [Int.lt_irrefl, decide_false, cond_false])
  unfold t_impl_ValidModel modB
  rw [lp]
  have d : decide ((((m.bigrams.getD []).length : Nat) : Int) ≤ 60) = decide ((m.bigrams.getD []).length ≤ 60) := decide_eq_decide.2 (by omega)
  rw [d]
  cases adj validBigram before (m.bigrams.getD []) with
  | false => rfl
  | true =>
    simp only [cond_true, obind_sm, Bool.true_and]
    cases within m.default 0 1000000 <;> rfl

theorem specMod_ok {m : Model} (hs : smallBigs m) : t_spec_l18Ok m = some (modB m) := by
  obtain ⟨hl, hw⟩ := hs
  have lp := adjLoop validBigram before (m.bigrams.getD []) hl (step := s0_spec_l18Ok m) (fun k a ha _ => by
      have hk := get_lt ha
      have c : (k : Int) < (((m.bigrams.getD []).length : Nat) : Int) := by omega
      have w := specBig_ok (hw a (List.mem_of_getElem? ha)).1 (hw a (List.mem_of_getElem? ha)).2
      unfold s0_spec_l18Ok
      simp only [c, decide_true, cond_true, getI_nat ha, obind_sm, w]
      cases validBigram a with
      | false => rfl
      | true =>
        by_cases k0 : k = 0
        · subst k0
          rfl
        · obtain ⟨b, hb, gb⟩ := pred_getA k0 hk hl
          have d : decide ((0 : Int) < (k : Int)) = true := decide_eq_true (by omega)
          have d2 : decide (k = 0) = false := decide_eq_false k0
          simp only [Bool.not_true, cond_false, obind_sm, d, d2, Bool.not_false, Bool.and_self, cond_true, gb, hb, Bool.true_and, Bool.false_or, specBefore_ok]
          cases before b a <;> rfl)
    (by
      unfold s0_spec_l18Ok
      simp only [Int.lt_irrefl, decide_false, cond_false])
  unfold t_spec_l18Ok modB
  rw [lp]
  have d : decide ((((m.bigrams.getD []).length : Nat) : Int) ≤ 60) = decide ((m.bigrams.getD []).length ≤ 60) := decide_eq_decide.2 (by omega)
  rw [d]
  cases adj validBigram before (m.bigrams.getD []) with
  | false => rfl
  | true =>
    simp only [cond_true, obind_sm, Bool.true_and]
    cases within m.default 0 1000000 <;> rfl

/-! ### The cost of a text in a lattice: the least cost of a path -/
inductive Wy (E : List Edg) (lab : Nat → ByteArray) : Nat → Nat → Int → Prop
  | start : Wy E lab 0 0 0
  | step {k u v : Nat} {c : Int} {i : Nat} {e : Edg} : Wy E lab k u c → E[i]? = some e → e.frm = (u : Int) → e.upto = (v : Int) → e.label = lab k → Wy E lab (k + 1) v (c + e.cost)

theorem set_upd {L : List Int} {v : Nat} {x y : Int} (h : L[v]? = some x) (i : Nat) : (L.set v y)[i]? = if i = v then some y else L[i]? := by
  by_cases e : i = v
  · subst e
    rw [if_pos rfl, List.getElem?_set_self (get_lt h)]
  · rw [if_neg e, List.getElem?_set_ne (fun k => e k.symm)]

/-- .. what the first j edges tell of the next row. -/
def Nxt (E : List Edg) (lab : Nat → ByteArray) (k j : Nat) (v : Nat) (c : Int) : Prop := ∃ i e u c', i < j ∧ E[i]? = some e ∧ e.frm = ((u : Nat) : Int) ∧ e.upto = (v : Int) ∧ e.label = lab k ∧ Wy E lab k u c' ∧ c = c' + e.cost

theorem Nxt.all {E : List Edg} {lab : Nat → ByteArray} {k v : Nat} {c : Int} : Nxt E lab k E.length v c ↔ Wy E lab (k + 1) v c := by
  constructor
  · rintro ⟨i, e, u, c', _, he, hf, hu, hl, hw, rfl⟩
    exact .step hw he hf hu hl
  · intro h
    cases h with
    | step hw he hf hu hl => exact ⟨_, _, _, _, get_lt he, he, hf, hu, hl, hw, rfl⟩

/-- A cell's cost is at most c. -/
def Cap (n : Nat) (L : List Int) (v k : Nat) (c : Int) : Prop := ∃ x, L[v * (n + 1) + k]? = some x ∧ 0 ≤ x ∧ x ≤ c

theorem Cap.mono {n : Nat} {L : List Int} {v k m : Nat} {c x y : Int} (h : Cap n L v k c) (hx : L[m]? = some x) (hy : x < 0 ∨ y < x) (h0 : 0 ≤ y) : Cap n (L.set m y) v k c := by
  obtain ⟨z, h1, h2, h3⟩ := h
  unfold Cap
  rw [set_upd hx]
  by_cases e : v * (n + 1) + k = m
  · rw [if_pos e]
    rw [e, hx] at h1
    cases h1
    exact ⟨y, rfl, h0, by omega⟩
  · rw [if_neg e]
    exact ⟨z, h1, h2, h3⟩

theorem mem_len {A : Type} {wt : A → Nat} (s : Sl A) : (s.getD []).length ≤ wtS wt s := by
  unfold wtS
  omega

/-! ### Sets of symbols as numbers; sums -/
theorem wr_shift (x q : Int) : wr (x + 18446744073709551616 * q) = wr x := by
  simp only [wr, IntKind.wrap, IntKind.bits, IntKind.signed]
  first | omega | (simp; done)

theorem wr_mod (x : Int) : ∃ q, wr x = x + 18446744073709551616 * q := by
  have h : ∃ q, wr x = x - 18446744073709551616 * q := by
    simp only [wr, IntKind.wrap, IntKind.bits, IntKind.signed]
    by_cases h : x % 18446744073709551616 ≥ 9223372036854775808
    · exact ⟨x / 18446744073709551616 + 1, by simp [h]; omega⟩
    · exact ⟨x / 18446744073709551616, by simp [h]; omega⟩
  obtain ⟨q, hq⟩ := h
  exact ⟨-q, by rw [hq]; omega⟩

theorem wr_add_l (x y : Int) : wr (wr x + y) = wr (x + y) := by
  obtain ⟨q, h⟩ := wr_mod x
  rw [h, show x + 18446744073709551616 * q + y = x + y + 18446744073709551616 * q by omega, wr_shift]

def upd (base : Nat → Int) (S : Nat) (x : Int) (v : Nat) : Int := if v = S then x else base v

theorem upd_self (base : Nat → Int) (S : Nat) (x : Int) : upd base S x S = x := if_pos rfl

theorem upd_ne {base : Nat → Int} {S v : Nat} (x : Int) (h : v ≠ S) : upd base S x v = base v := if_neg h

structure PI (l : Sl Symbol) (n : Nat) (bx : Nat → Box) (c : Nat → Int) (p : Parser) : Prop where
  list : p.list = l
  boxes : ∀ v, v < n → (p.boxes.getD [])[v]? = some (bx v)
  best : (p.best.getD []).length = n
  clen : (p.count.getD []).length = n
  count : ∀ v, v < n → (p.count.getD [])[v]? = some (c v)

structure CI (l : Sl Symbol) (n : Nat) (bx : Nat → Box) (c : Nat → Int) (p : Chart21) : Prop where
  list : p.list = l
  len : (p.cells.getD []).length = n
  cells : ∀ v, v < n → ∃ x, (p.cells.getD [])[v]? = some x ∧ x.box = bx v ∧ x.ways = c v

theorem setS_look {A : Type} {s : Sl A} {v : Nat} {x y : A} (h : (s.getD [])[v]? = some x) (i : Nat) : ((setS s (v : Int) y).getD [])[i]? = if i = v then some y else (s.getD [])[i]? := by
  cases s with
  | none => simp at h
  | some l =>
    show (l.set ((v : Int).toNat) y)[i]? = if i = v then some y else l[i]?
    rw [Int.toNat_natCast]
    have h' : l[v]? = some x := h
    by_cases e : i = v
    · subst e
      rw [if_pos rfl, List.getElem?_set_self (get_lt h')]
    · rw [if_neg e, List.getElem?_set_ne (fun k => e k.symm)]

theorem PI.add {l : Sl Symbol} {n : Nat} {bx : Nat → Box} {base : Nat → Int} {S : Nat} {X Y : Int} {p : Parser} (h : PI l n bx (upd base S (wr X)) p) (hS : S < n) (q : Sl Choice) (hq : (q.getD []).length = n) : PI l n bx (upd base S (wr (X + Y))) ⟨p.list, p.boxes, q, setS p.count (S : Int) (wr (wr X + Y))⟩ := by
  have hs := h.count S hS
  refine ⟨h.list, h.boxes, hq, by show ((setS p.count (S : Int) _).getD []).length = n; rw [setS_len]; exact h.clen, fun v hv => ?_⟩
  show ((setS p.count (S : Int) _).getD [])[v]? = _
  rw [setS_look hs]
  by_cases e : v = S
  · subst e
    rw [if_pos rfl, upd_self, wr_add_l]
  · rw [if_neg e, upd_ne _ e, h.count v hv, upd_ne _ e]

/-! ### One way, the reference's side; all divisions of a set, on both sides -/
theorem CI.add {l : Sl Symbol} {n : Nat} {bx : Nat → Box} {base : Nat → Int} {S : Nat} {X Y Z : Int} {p : Chart21} (h : CI l n bx (upd base S (wr X)) p) (hS : S < n) (y : Cell21) (hb : y.box = bx S) (hw : y.ways = wr (wr X + Y)) (hZ : wr (X + Y) = wr (X + Z)) : CI l n bx (upd base S (wr (X + Z))) ⟨p.list, setS p.cells (S : Int) y⟩ := by
  obtain ⟨x, hx, _⟩ := h.cells S hS
  refine ⟨h.list, by show ((setS p.cells (S : Int) _).getD []).length = n; rw [setS_len]; exact h.len, fun v hv => ?_⟩
  show ∃ x, ((setS p.cells (S : Int) _).getD [])[v]? = some x ∧ _
  rw [setS_look hx]
  by_cases e : v = S
  · subst e
    rw [if_pos rfl]
    exact ⟨y, rfl, hb, by rw [upd_self, hw, wr_add_l, hZ]⟩
  · rw [if_neg e]
    obtain ⟨z, h1, h2, h3⟩ := h.cells v hv
    exact ⟨z, h1, h2, by rw [h3, upd_ne _ e, upd_ne _ e]⟩

/-! ### The boxes of sets; one set whole -/
def shrQ (S i : Nat) : Int := Int.fdiv (S : Int) (2 ^ (min (i : Int).toNat 64))

def outQ (S i : Nat) : Bool := decide (andI (shrQ S i) 1 = 0)

/-! ### The best way (ParseSymbols) -/
structure Way where
  kind : Int
  sign : Int
  a : Nat
  b : Nat
  cost : Int
  ways : Int
  deriving DecidableEq

abbrev posLt (x y : Way) : Prop := x.kind < y.kind ∨ (x.kind = y.kind ∧ (x.sign < y.sign ∨ (x.sign = y.sign ∧ x.a < y.a)))

abbrev lexLt (x y : Way) : Prop := x.cost < y.cost ∨ (x.cost = y.cost ∧ posLt x y)

def stepI (o : Option Way) (t : Way) : Option Way := if t.ways = 0 then o else match o with
  | none => some t
  | some x => if lexLt t x then some t else some x

def chOf (t : Way) : Choice := ⟨t.kind, t.sign, (t.a : Int), (t.b : Int), t.cost⟩

structure PB (l : Sl Symbol) (n : Nat) (bx : Nat → Box) (base : Nat → Int) (bc : Nat → Choice) (S : Nat) (X : Int) (o : Option Way) (p : Parser) : Prop where
  pi : PI l n bx (upd base S (wr X)) p
  bst : ∀ v, v < n → v ≠ S → (p.best.getD [])[v]? = some (bc v)
  own : ∀ t, o = some t → (p.best.getD [])[S]? = some (chOf t)
  zero : o = none ↔ X = 0
  pos : 0 ≤ X

theorem PB.take {l : Sl Symbol} {n : Nat} {bx : Nat → Box} {base : Nat → Int} {bc : Nat → Choice} {S : Nat} {X : Int} {o : Option Way} {p : Parser} (h : PB l n bx base bc S X o p) (hS : S < n) {t : Way} (hp : 0 < t.ways) (hs : stepI o t = some t) : PB l n bx base bc S (X + t.ways) (stepI o t) ⟨p.list, p.boxes, setS p.best (S : Int) (chOf t), setS p.count (S : Int) (wr (wr X + t.ways))⟩ := by
  obtain ⟨y, hy⟩ : ∃ y, (p.best.getD [])[S]? = some y := ⟨_, List.getElem?_eq_getElem (by have := h.pi.best; omega)⟩
  have pos := h.pos
  refine ⟨h.pi.add hS _ (by rw [setS_len]; exact h.pi.best), fun v hv hn => ?_, fun u hu => ?_, ?_, by omega⟩
  · show ((setS p.best (S : Int) _).getD [])[v]? = _
    rw [setS_look hy, if_neg hn]
    exact h.bst v hv hn
  · show ((setS p.best (S : Int) _).getD [])[S]? = _
    rw [hs] at hu
    cases hu
    rw [setS_look hy, if_pos rfl]
  · rw [hs]
    exact ⟨fun e => (by cases e), fun e => by omega⟩

/-! ### One set whole, with its best way, on both sides -/
def lastIx (S : Nat) : Nat → Nat
  | 0 => 0
  | i + 1 => bif outQ S i then lastIx S i else i

def Lnk (N : Nat) (base : Nat → Int) (v : Nat) (x y : Choice) : Prop :=
  (v &&& (v - 1) = 0 ∧ y = ⟨0, (lastIx v N : Int), 0, 0, 0⟩) ∨ (v &&& (v - 1) ≠ 0 ∧ ∃ t : Way, x = chOf t ∧ y = chOf t ∧ t.kind ≠ 0 ∧ 0 < t.a ∧ t.a < v ∧ t.b < v ∧ base t.a ≠ 0 ∧ (t.b = 0 ∨ base t.b ≠ 0) ∧ t.a + t.b ≤ v)

theorem Lnk.mono {N v S : Nat} {base : Nat → Int} {x y : Choice} {u : Int} (h : Lnk N base v x y) (hv : v ≤ S) (hu : base S = 0) : Lnk N (upd base S u) v x y := by
  rcases h with h | ⟨h1, t, h2, h3, h4, h5, h6, h7, h8, h9, h10⟩
  · exact .inl h
  · refine .inr ⟨h1, t, h2, h3, h4, h5, h6, h7, ?_, ?_, h10⟩
    · rw [upd_ne _ (by omega)]
      exact h8
    · rw [upd_ne _ (by omega)]
      exact h9

/-! ### The sentence with the least cost, by itself -/
/-- Words that may stand at a place, each with its own cost. -/
abbrev CandL := List (ByteArray × Int)

/-- Words one behind the other, with their cost. -/
inductive SPth (pc : ByteArray → ByteArray → Int) : List CandL → ByteArray → List ByteArray → Int → Prop
  | nil {a : ByteArray} : SPth pc [] a [] 0
  | cons {C : CandL} {Cs : List CandL} {a w : ByteArray} {c r : Int} {ws : List ByteArray} (hw : (w, c) ∈ C) (h : SPth pc Cs w ws r) : SPth pc (C :: Cs) a (w :: ws) (pc a w + (c + r))

theorem SPth.len {pc : ByteArray → ByteArray → Int} {Cs : List CandL} {a : ByteArray} {ws : List ByteArray} {c : Int} (h : SPth pc Cs a ws c) : ws.length = Cs.length := by
  induction h with
  | nil => rfl
  | cons hw h ih => simp [ih]

/-! ### Texts of symbols and of models, plain -/
def symLineB (s : Symbol) : List UInt8 := bl s.label ++ [32] ++ bl (itS s.box.x1) ++ [32] ++ bl (itS s.box.y1) ++ [32] ++ bl (itS s.box.x2) ++ [32] ++ bl (itS s.box.y2) ++ [10]

def symTextB (l : List Symbol) : List UInt8 := l.flatMap symLineB

/-- What the program's SymbolsText gives. -/
def t_impl_SymbolsText (list_ : Sl Symbol) : Option ByteArray := bif decide ((list_.getD []).length ≤ 4294967296) then (bif okSys (list_.getD []) then some (strL (symTextB (list_.getD []))) else some ⟨#[]⟩) else none

def bigLineB (b : Bigram) : List UInt8 := (bif decide (b.first = (⟨#[]⟩ : ByteArray)) then [45] else bl b.first) ++ [32] ++ bl b.second ++ [32] ++ bl (itS b.cost) ++ [10]

def modHeadB (d : Int) : List UInt8 := [100, 101, 102, 97, 117, 108, 116, 32] ++ bl (itS d) ++ [10]

def modTextB (m : Model) : List UInt8 := modHeadB m.default ++ (m.bigrams.getD []).flatMap bigLineB

/-- The words of the pairs are not too long for the machine. -/
def fitBigs (m : Model) : Bool := decide ((m.bigrams.getD []).length ≤ 4294967296) && (m.bigrams.getD []).all fun b => decide (b.first.size ≤ 4294967296) && decide (b.second.size ≤ 4294967296)

/-- What the program's ModelText gives. -/
def t_impl_ModelText (m_ : Model) : Option ByteArray := bif fitBigs m_ then (bif modB m_ then some (strL (modTextB m_)) else some ⟨#[]⟩) else none

theorem fitBigs_small {m : Model} (h : fitBigs m = true) : smallBigs m := by
  unfold fitBigs at h
  simp only [Bool.and_eq_true, decide_eq_true_eq, List.all_eq_true] at h
  exact h

theorem small_fitBigs {m : Model} (h : smallBigs m) : fitBigs m = true := by
  unfold fitBigs
  simp only [Bool.and_eq_true, decide_eq_true_eq, List.all_eq_true]
  exact h

theorem catL {a b : List UInt8} (h : a.length + b.length ≤ 4294967296) : catO (strL a) (strL b) = some (strL (a ++ b)) := by
  rw [catO_some (by rw [strL_size, strL_size]; exact h), strL_app]

theorem itL {n : Int} (h0 : -9223372036854775808 ≤ n) (h1 : n ≤ 9223372036854775807) : ∃ D, itS n = strL D ∧ bl (itS n) = D ∧ D.length ≤ 20 ∧ t_spec_l01Dec n = some (strL D) := by
  obtain ⟨e1, e2⟩ := l01Dec_ok h0 h1
  refine ⟨bl (itS n), (strL_bl _).symm, rfl, ?_, by rw [strL_bl]; exact e1⟩
  have := strL_size (bl (itS n))
  rw [strL_bl] at this
  omega

theorem bl_length (s : ByteArray) : (bl s).length = s.size := by
  have := strL_size (bl s)
  rw [strL_bl] at this
  exact this.symm

theorem okSys_mem {l : List Symbol} (h : okSys l = true) : ∀ s ∈ l, okSym s = true := by
  intro s hs
  unfold okSys at h
  cases e : firstL fSy l 0 with
  | some r =>
    rw [e] at h
    simp only at h
    rw [fSy_some e] at h
    cases h
  | none =>
    cases c : okSym s with
    | true => rfl
    | false =>
      have key : ∀ (l : List Symbol) (k : Nat), s ∈ l → firstL fSy l k ≠ none := by
        intro l
        induction l with
        | nil => intro k h; cases h
        | cons a l ih =>
          intro k h
          unfold firstL
          cases c2 : okSym a with
          | true =>
            have hf : fSy k a = none := by unfold fSy; rw [c2]; rfl
            rw [hf]
            rcases List.mem_cons.1 h with rfl | h
            · rw [c] at c2; cases c2
            · exact ih (k + 1) h
          | false =>
            have hf : fSy k a = some false := by unfold fSy; rw [c2]; rfl
            rw [hf]
            simp
      exact absurd e (key l 0 hs)

theorem okSym_v {s : Symbol} (h : okSym s = true) : s.label.size = 1 ∧ (0 ≤ s.box.x1 ∧ s.box.x1 ≤ 4095) ∧ (0 ≤ s.box.y1 ∧ s.box.y1 ≤ 4095) ∧ (0 ≤ s.box.x2 ∧ s.box.x2 ≤ 4095) ∧ (0 ≤ s.box.y2 ∧ s.box.y2 ≤ 4095) := by
  unfold okSym isLabel validBox within at h
  simp only [Bool.and_eq_true, decide_eq_true_eq] at h
  omega

theorem symLine_len {s : Symbol} (h : okSym s = true) : (symLineB s).length ≤ 86 := by
  obtain ⟨h1, h2, h3, h4, h5⟩ := okSym_v h
  obtain ⟨D1, _, e1, l1, _⟩ := itL (n := s.box.x1) (by omega) (by omega)
  obtain ⟨D2, _, e2, l2, _⟩ := itL (n := s.box.y1) (by omega) (by omega)
  obtain ⟨D3, _, e3, l3, _⟩ := itL (n := s.box.x2) (by omega) (by omega)
  obtain ⟨D4, _, e4, l4, _⟩ := itL (n := s.box.y2) (by omega) (by omega)
  have := bl_length s.label
  unfold symLineB
  rw [e1, e2, e3, e4]
  simp only [List.length_append, List.length_cons, List.length_nil]
  omega

theorem flat_len {A : Type} {f : A → List UInt8} {c : Nat} : ∀ {l : List A}, (∀ a ∈ l, (f a).length ≤ c) → (l.flatMap f).length ≤ c * l.length
  | [], _ => by simp
  | a :: l, h => by
    have h1 := h a (List.mem_cons_self ..)
    have h2 := flat_len (l := l) (fun x hx => h x (List.mem_cons_of_mem _ hx))
    rw [List.flatMap_cons, List.length_append, List.length_cons, Nat.mul_succ]
    omega

theorem flat_take {A : Type} (f : A → List UInt8) {l : List A} {k : Nat} {a : A} (h : l[k]? = some a) : (l.take (k + 1)).flatMap f = (l.take k).flatMap f ++ f a := by
  rw [List.take_add_one, h, List.flatMap_append]
  simp

theorem sp32 : (⟨#[32]⟩ : ByteArray) = strL [32] := (rfl)

theorem nl10 : (⟨#[10]⟩ : ByteArray) = strL [10] := (rfl)

theorem valBig_v {b : Bigram} (h : validBigram b = true) : b.first.size ≤ 10 ∧ (1 ≤ b.second.size ∧ b.second.size ≤ 10) ∧ 0 ≤ b.cost ∧ b.cost ≤ 1000000 := by
  unfold validBigram isFirst within at h
  simp only [Bool.and_eq_true, Bool.or_eq_true, decide_eq_true_eq] at h
  obtain ⟨h1, h2, h3⟩ := h
  have w : ∀ {s : ByteArray}, isWord s = true → 1 ≤ s.size ∧ s.size ≤ 10 := by
    intro s hs
    unfold isWord at hs
    simp only [Bool.and_eq_true, decide_eq_true_eq] at hs
    exact hs.2
  refine ⟨?_, w h1, h3⟩
  rcases h2 with h2 | h2
  · rw [h2]
    decide
  · exact (w h2).2

theorem modB_v {m : Model} (h : modB m = true) : (∀ b ∈ m.bigrams.getD [], validBigram b = true) ∧ (0 ≤ m.default ∧ m.default ≤ 1000000) ∧ (m.bigrams.getD []).length ≤ 60 := by
  unfold modB within at h
  simp only [Bool.and_eq_true, decide_eq_true_eq] at h
  exact ⟨(adj_all h.1).1, h.2.1, h.2.2⟩

theorem bigLine_len {b : Bigram} (h : validBigram b = true) : (bigLineB b).length ≤ 43 := by
  obtain ⟨h1, h2, h3⟩ := valBig_v h
  obtain ⟨D, _, e1, l1, _⟩ := itL (n := b.cost) (by omega) (by omega)
  have := bl_length b.first
  have := bl_length b.second
  unfold bigLineB
  rw [e1]
  cases decide (b.first = (⟨#[]⟩ : ByteArray)) <;> simp only [cond_true, cond_false, List.length_append, List.length_cons, List.length_nil] <;> omega

theorem bigLine_step {m : Model} {k : Nat} {b : Bigram} {A F S C : List UInt8} (hk : k < (m.bigrams.getD []).length) (hl : (m.bigrams.getD []).length ≤ 60) (hb : (m.bigrams.getD [])[k]? = some b) (f1 : t_spec_l01Dec b.cost = some (strL C)) (es : b.second = strL S)
    (hf : b.first = (⟨#[]⟩ : ByteArray) ∧ F = [45] ∨ b.first ≠ (⟨#[]⟩ : ByteArray) ∧ b.first = strL F) (h0 : A.length ≤ 10000) (h1 : F.length ≤ 10) (h2 : S.length ≤ 10) (h3 : C.length ≤ 20) :
    s0_spec_l18Text m (strL A, (k : Int)) = some (.inl (strL (A ++ (F ++ [32] ++ S ++ [32] ++ C ++ [10])), ((k + 1 : Nat) : Int))) := by
  have c : (k : Int) < (((m.bigrams.getD []).length : Nat) : Int) := by omega
  have mi : (⟨#[45]⟩ : ByteArray) = strL [45] := rfl
  unfold s0_spec_l18Text
  simp only [c, decide_true, cond_true]
  rw [getI_nat hb, obind_sm]
  rcases hf with ⟨e, rfl⟩ | ⟨e, ef⟩
  · rw [decide_eq_true e, cond_true, mi, sp32, es, f1, nl10]
    rw [catL (by simp), obind_sm, catL (by simp; omega), obind_sm, catL (by simp; omega), obind_sm, obind_sm, catL (by simp; omega), obind_sm, catL (by simp; omega), obind_sm, catL (by simp; omega), obind_sm, wr_succ hk (by omega)]
  · rw [decide_eq_false e, cond_false, sp32, es, f1, nl10, ef]
    rw [catL (by simp; omega), obind_sm, catL (by simp; omega), obind_sm, catL (by simp; omega), obind_sm, obind_sm, catL (by simp; omega), obind_sm, catL (by simp; omega), obind_sm, catL (by simp; omega), obind_sm, wr_succ hk (by omega)]

theorem l18Text_ok {m : Model} (h : modB m = true) : t_spec_l18Text m = some (strL (modTextB m)) := by
  obtain ⟨hm, hd, hl⟩ := modB_v h
  obtain ⟨D, _, e0, l0, f0⟩ := itL (n := m.default) (by omega) (by omega)
  have hd9 : (modHeadB m.default).length ≤ 29 := by
    unfold modHeadB
    rw [e0]
    simp only [List.length_append, List.length_cons, List.length_nil]
    omega
  have lp := loopT_at (step := s0_spec_l18Text m) (m.bigrams.getD []).length (fun k => (strL (modHeadB m.default ++ ((m.bigrams.getD []).take k).flatMap bigLineB), (k : Int))) (strL (modTextB m))
    (fun k hk => by
      obtain ⟨b, hb⟩ : ∃ b, (m.bigrams.getD [])[k]? = some b := ⟨_, List.getElem?_eq_getElem hk⟩
      have ho := hm b (List.mem_of_getElem? hb)
      have c : (k : Int) < (((m.bigrams.getD []).length : Nat) : Int) := by omega
      obtain ⟨h1, h2, h3⟩ := valBig_v ho
      obtain ⟨C, _, e1, l1, f1⟩ := itL (n := b.cost) (by omega) (by omega)
      have b1 := bl_length b.first
      have b2 := bl_length b.second
      have acc : (modHeadB m.default ++ ((m.bigrams.getD []).take k).flatMap bigLineB).length ≤ 29 + 43 * 60 := by
        have h6 := flat_len (f := bigLineB) (c := 43) (l := (m.bigrams.getD []).take k) (fun a ha => bigLine_len (hm a (List.mem_of_mem_take ha)))
        have h7 : ((m.bigrams.getD []).take k).length ≤ 60 := by rw [List.length_take]; omega
        have h8 : 43 * ((m.bigrams.getD []).take k).length ≤ 43 * 60 := Nat.mul_le_mul_left _ h7
        rw [List.length_append]
        omega
      have ef : b.first = strL (bl b.first) := (strL_bl _).symm
      have es : b.second = strL (bl b.second) := (strL_bl _).symm
      have en : modHeadB m.default ++ ((m.bigrams.getD []).take (k + 1)).flatMap bigLineB = (modHeadB m.default ++ ((m.bigrams.getD []).take k).flatMap bigLineB) ++ ((bif decide (b.first = (⟨#[]⟩ : ByteArray)) then [45] else bl b.first) ++ [32] ++ bl b.second ++ [32] ++ C ++ [10]) := by
        rw [flat_take _ hb]
        have eb : bigLineB b = (bif decide (b.first = (⟨#[]⟩ : ByteArray)) then [45] else bl b.first) ++ [32] ++ bl b.second ++ [32] ++ C ++ [10] := by
          unfold bigLineB
          rw [e1]
        rw [eb]
        exact (List.append_assoc ..).symm
      rw [en]
      by_cases c2 : b.first = (⟨#[]⟩ : ByteArray)
      · rw [decide_eq_true c2, cond_true]
        exact bigLine_step hk hl hb f1 es (.inl ⟨c2, rfl⟩) (by omega) (by simp) (by omega) l1
      · rw [decide_eq_false c2, cond_false]
        exact bigLine_step hk hl hb f1 es (.inr ⟨c2, ef⟩) (by omega) (by omega) (by omega) l1)
    (by
      unfold s0_spec_l18Text
      simp only [Int.lt_irrefl, decide_false, cond_false, List.take_length]
      rfl) 0 (by omega)
  have hw : (⟨#[100, 101, 102, 97, 117, 108, 116, 32]⟩ : ByteArray) = strL [100, 101, 102, 97, 117, 108, 116, 32] := rfl
  have lp' : loopT (s0_spec_l18Text m) (strL ([100, 101, 102, 97, 117, 108, 116, 32] ++ D ++ [10]), 0) = some (strL (modTextB m)) := by
    have := lp
    unfold modHeadB at this
    rw [e0] at this
    simpa using this
  unfold t_spec_l18Text
  rw [f0, obind_sm, hw, catL (by simp; omega), obind_sm, nl10, catL (by simp; omega), obind_sm, lp', obind_sm]

theorem modText_both {m : Model} (hs : smallBigs m) : t_spec_ModelText m = t_impl_ModelText m := by
  unfold t_spec_ModelText t_impl_ModelText
  rw [specMod_ok hs, obind_sm, small_fitBigs hs, cond_true]
  cases h : modB m with
  | false => rfl
  | true => rw [Bool.not_true, cond_false, cond_true, l18Text_ok h, obind_sm]

section
open Go.Shelf Go.RowKit
/-! ### strings.Builder: the library's contracts at this program -/
def layBWrite_ren : Go.Shelf.Ren := ⟨fun | 166 => 30 | 240 => 59 | 276 => 82 | n => n, fun | 70 => 53 | 9 => 9 | 3 => 3 | 75 => 58 | 0 => 0 | 72 => 56 | 37 => 54 | 4 => 4 | 164 => 115 | 5 => 5 | 80 => 64 | 20 => 20 | n => n, fun | n => n⟩
theorem layBWrite : Go.Proofs.Lays.n166 Tryd.prog layBWrite_ren := {
  mixed := by kernel_rfl
  f166 := Tryd.func30.trans (congrArg some (by kernel_rfl))
  f240 := Tryd.func59.trans (congrArg some (by kernel_rfl))
  f276 := Tryd.func82.trans (congrArg some (by kernel_rfl))
  t0 := Tryd.underlying0
  a0 := Tryd.isAgg0
  z0 := Tryd.sizeOf0
  v0 := Tryd.zeroValue0
  t3 := Tryd.underlying3
  a3 := Tryd.isAgg3
  z3 := Tryd.sizeOf3
  v3 := Tryd.zeroValue3
  t4 := Tryd.underlying4
  a4 := Tryd.isAgg4
  z4 := Tryd.sizeOf4
  v4 := Tryd.zeroValue4
  t9 := Tryd.underlying9
  a9 := Tryd.isAgg9
  z9 := Tryd.sizeOf9
  v9 := Tryd.zeroValue9
  t20 := Tryd.underlying20
  a20 := Tryd.isAgg20
  z20 := Tryd.sizeOf20
  v20 := Tryd.zeroValue20
  t37 := Tryd.underlying54
  a37 := Tryd.isAgg54
  z37 := Tryd.sizeOf54
  v37 := Tryd.zeroValue54
  t70 := Tryd.underlying53
  a70 := Tryd.isAgg53
  z70 := Tryd.sizeOf53
  v70 := Tryd.zeroValue53
  t72 := Tryd.underlying56
  a72 := Tryd.isAgg56
  z72 := Tryd.sizeOf56
  v72 := Tryd.zeroValue56
  t75 := Tryd.underlying58
  a75 := Tryd.isAgg58
  z75 := Tryd.sizeOf58
  v75 := Tryd.zeroValue58
  t164 := Tryd.underlying115
  a164 := Tryd.isAgg115
  z164 := Tryd.sizeOf115
  v164 := Tryd.zeroValue115 }
theorem extraBW : Builder.Extra Tryd.prog layBWrite_ren where
  sizeBuilder := by kernel_rfl
  liesBuilder := by kernel_rfl
  t5 := Tryd.underlying5
  a5 := Tryd.isAgg5
  z5 := Tryd.sizeOf5
  v5 := Tryd.zeroValue5
  infoByte := by kernel_rfl
  cellsByte := by kernel_rfl
  sizeByte := by kernel_rfl
  neB5 := by decide
theorem extraBS : Builder.Extra Tryd.prog layBStr_ren where
  sizeBuilder := by kernel_rfl
  liesBuilder := by kernel_rfl
  t5 := Tryd.underlying5
  a5 := Tryd.isAgg5
  z5 := Tryd.sizeOf5
  v5 := Tryd.zeroValue5
  infoByte := by kernel_rfl
  cellsByte := by kernel_rfl
  sizeByte := by kernel_rfl
  neB5 := by decide
/-- A builder that holds these bytes. -/
abbrev BuildB (B b : Nat) (l : List UInt8) (w : World) : Prop := Lib.IsBuilderF 56 5 B b (Lib.byteCells l) w
theorem bwriteB (B b : Nat) (l : List UInt8) (s : ByteArray) (w : World) (h : BuildB B b l w) (hlen : l.length + s.size ≤ 1000000) (hB : B ≤ w.heap.size) :
    Calls Tryd.prog 30 #[.pointer (some ⟨b, 0, none⟩), .string s] w fun e w' => e = .returned (.tuple #[.int .i64 s.size, .nilIface]) ∧ BuildB B b (l ++ bl s) w' ∧ Below B w w' :=
  (Any.Builder_WriteString_f layBWrite extraBW B b (Lib.byteCells l) s w h (by rw [Lib.byteCells_length]; omega) hB).mono fun e w' ⟨h1, h2, h3⟩ => ⟨h1, by
    rw [Lib.strCells_eq, ← Lib.byteCells_append] at h2
    exact Or.inr h2, h3⟩
theorem bstrB (B b : Nat) (l : List UInt8) (w : World) (h : BuildB B b l w) (hB : B ≤ w.heap.size) :
    Calls Tryd.prog 32 #[.pointer (some ⟨b, 0, none⟩)] w fun e w' => e = .returned (.string (strL l)) ∧ Below B w w' :=
  (Any.Builder_String_any_f layBStr extraBS B b l w h hB).mono fun e w' ⟨h1, _, h3⟩ => ⟨h1, h3⟩
theorem keepCellB {B A o : Nat} {w w' : World} {v : Value} (hb : Below B w w') (hA : A < B) (h : w.cell? ⟨A, o, none⟩ = some v) : w'.cell? ⟨A, o, none⟩ = some v := by
  rw [World.cell?_of_block (w := w) (a := ⟨A, o, none⟩) (hb.block A hA)]
  exact h
theorem freshB {B : Nat} {w : World} (hB : B ≤ w.heap.size) : BuildB B w.heap.size [] (w.alloc (.cells #[.pointer none, .slice none 0 0] 56)) :=
  .inl ⟨hB, .slice none 0 0, heap_alloc_new w _, World.ownsRowF_nil _ _ _ _, by simp [Value.ownBlock]⟩
/-- What an engine's contract says, as the kit says it. -/
theorem callsB {P : Program} {g : Nat} {vs : Array Value} {w : World} {R : Ending → World → Prop} (hb : HasBody P g) (h : CallF P g vs w R) : Calls P g vs w R := by
  unfold CallF at h
  rw [callFunc_body hb] at h
  exact h
theorem glob_belowB {P : Program} {w w' : World} (h : Glob P w) (hb : Below w.heap.size w w') : Glob P w' := fun t ht g hg => tabIs_block hg (h t ht g hg) fun hlt => hb.block g hlt
theorem repN_svB {X : Nat → Prop} {B : Nat} {w : World} {s : ByteArray} {v : Value} (h : RepN X B w (sv s) v) : v = .string s := by
  obtain ⟨ρ0, h1, h2⟩ := h
  obtain ⟨h3, h4⟩ := h2 0
  obtain ⟨_, h5⟩ := h4 (mat depth (sv s) 0).2 (fun i ob e => by rw [Nat.zero_add]; exact e)
  have e : (mat depth (sv s) 0).1 = sv s := rfl
  rw [e] at h5
  cases h5
  rfl
theorem repN_bvB {X : Nat → Prop} {B : Nat} {w : World} {b : Bool} {v : Value} (h : RepN X B w (bv b) v) : v = .bool b := by
  obtain ⟨ρ0, h1, h2⟩ := h
  obtain ⟨h3, h4⟩ := h2 0
  obtain ⟨_, h5⟩ := h4 (mat depth (bv b) 0).2 (fun i ob e => by rw [Nat.zero_add]; exact e)
  have e : (mat depth (bv b) 0).1 = bv b := rfl
  rw [e] at h5
  cases h5
  rfl
theorem decB {n : Int} (h0 : 0 ≤ n) (h1 : n ≤ 1000000) {w : World} (hg : Glob Tryd.prog w) :
    Calls Tryd.prog 31 #[.int .i64 n] w fun e w' => e = .returned (.string (itS n)) ∧ Below w.heap.size w w' := by
  have e0 : (C1 (fun c : ByteArray => enc c) t_impl_Decimal) [iv n] = some (sv (itS n)) := by
    have : (C1 (fun c : ByteArray => enc c) t_impl_Decimal) [enc n] = obind (t_impl_Decimal n) fun c => some (enc c) := R1_enc _ _
    rw [show (iv n : AV) = enc n from rfl, this, decimal_ok (by omega) (by omega)]
    rfl
  have hp := tt_impl_Decimal [iv n] _ e0 (fun _ => False) w #[.int .i64 n] hg rfl (fun i d v h2 h3 => by
    match i, h2, h3 with
    | 0, h2, h3 => cases h2; cases h3; exact .sc rfl)
  refine (callsB hb_impl_Decimal hp).mono fun e w' ⟨v, e1, e2, e3⟩ => ⟨?_, e2.toBelow⟩
  rw [e1, repN_svB e3]
end

section
open Go.Shelf Go.RowKit
/-- What stands while a line is made, beside the element's own cells. -/
structure KeepB (w : World) (t o b : Nat) (W : World) : Prop where
  g0 : Glob Tryd.prog w
  ne : o ≠ b
  nt : t ≠ 5
  blk : ∃ c fz, W.heap[o]? = some (.cells c t fz)
  blw : Below w.heap.size w W
theorem KeepB.lt {w : World} {t o b : Nat} {W : World} (h : KeepB w t o b W) : o < W.heap.size := by
  obtain ⟨c, fz, h⟩ := h.blk
  exact (Array.getElem?_eq_some_iff.1 h).1
theorem KeepB.glob {w : World} {t o b : Nat} {W : World} (h : KeepB w t o b W) : Glob Tryd.prog W := glob_belowB h.g0 h.blw
theorem KeepB.keep {w : World} {t o b : Nat} {W W' : World} (hd : Below W.heap.size W W') (h : KeepB w t o b W) : KeepB w t o b W' := by
  obtain ⟨c, fz, hc⟩ := h.blk
  exact ⟨h.g0, h.ne, h.nt, ⟨c, fz, by rw [hd.block o h.lt]; exact hc⟩, h.blw.trans (hd.mono h.blw.size)⟩
theorem KeepB.drew {w : World} {t o b : Nat} {W : World} (h : KeepB w t o b W) : KeepB w t o b W.drew := h.keep (Below.refl _ _).drew
theorem KeepB.others {w : World} {t o b : Nat} {W W' : World} (hw : Below w.heap.size W W') (ho : Lib.OthersKept 5 (some b) W W') (h : KeepB w t o b W) : W'.heap[o]? = W.heap[o]? ∧ KeepB w t o b W' := by
  obtain ⟨c, fz, hc⟩ := h.blk
  have e := ho o _ hc (fun e => h.ne (Option.some.inj e)) (fun c' fz' e => by
    have e2 := congrArg (fun x => match x with | Obj.cells _ t _ => t | _ => 0) e
    exact h.nt e2)
  exact ⟨by rw [e, hc], h.g0, h.ne, h.nt, ⟨c, fz, e⟩, h.blw.trans hw⟩
theorem keepB_start {w wr : World} {t b : Nat} {cs : Array Value} (hb : Below w.heap.size w wr) (hg : Glob Tryd.prog w) (hlt : b < wr.heap.size) (nt : t ≠ 5) : KeepB w t wr.heap.size b (wr.alloc (.cells cs t)) :=
  ⟨hg, by omega, nt, ⟨cs, _, heap_alloc_new wr _⟩, hb.alloc hb.size _⟩
theorem bwriteK (B b : Nat) (l : List UInt8) (s : ByteArray) (w : World) (h : BuildB B b l w) (hlen : l.length + s.size ≤ 1000000) (hB : B ≤ w.heap.size) :
    Calls Tryd.prog 30 #[.pointer (some ⟨b, 0, none⟩), .string s] w fun e w' => e = .returned (.tuple #[.int .i64 s.size, .nilIface]) ∧ BuildB B b (l ++ bl s) w' ∧ Below B w w' ∧ Lib.OthersKept 5 (some b) w w' :=
  (Any.Builder_WriteString_k layBWrite extraBW B b (Lib.byteCells l) s w h (by rw [Lib.byteCells_length]; omega) hB).mono fun e w' ⟨h1, h2, h3, h4⟩ => ⟨h1, by
    rw [Lib.strCells_eq, ← Lib.byteCells_append] at h2
    exact Or.inr h2, h3, h4⟩
theorem build_lt {B b : Nat} {l : List UInt8} {w : World} (h : BuildB B b l w) : b < w.heap.size := by
  rcases h with ⟨_, v, h, _⟩ | ⟨_, v, h, _⟩
  · exact (Array.getElem?_eq_some_iff.1 h).1
  · exact (Array.getElem?_eq_some_iff.1 h).1
theorem build4 {B b : Nat} {l : List UInt8} {W0 W1 W2 W3 W4 : World} (h4 : Below W3.heap.size W3 W4) (h3 : Below W2.heap.size W2 W3) (h2 : Below W1.heap.size W1 W2) (h1 : Below W0.drew.heap.size W0.drew W1) (h : BuildB B b l W0) : BuildB B b l W4 :=
  (((Lib.IsBuilderF.below (Lib.IsBuilderF.below h (Below.refl _ _).drew) h1).below h2).below h3).below h4
abbrev SymS (w : World) (o b : Nat) (s : Symbol) (W : World) : Prop :=
  W.cell? ⟨o, 0, none⟩ = some (.string s.label) ∧ W.cell? ⟨o, 1, none⟩ = some (.int .i64 s.box.x1) ∧ W.cell? ⟨o, 2, none⟩ = some (.int .i64 s.box.y1) ∧ W.cell? ⟨o, 3, none⟩ = some (.int .i64 s.box.x2) ∧ W.cell? ⟨o, 4, none⟩ = some (.int .i64 s.box.y2) ∧ KeepB w 74 o b W
theorem symS_keep {w : World} {o b : Nat} {s : Symbol} {W W' : World} (hd : Below W.heap.size W W') (h : SymS w o b s W) : SymS w o b s W' := by
  obtain ⟨g0, g1, g2, g3, g4, g5⟩ := h
  exact ⟨keepCellB hd g5.lt g0, keepCellB hd g5.lt g1, keepCellB hd g5.lt g2, keepCellB hd g5.lt g3, keepCellB hd g5.lt g4, g5.keep hd⟩
theorem symS_others {w : World} {o b : Nat} {s : Symbol} {W W' : World} (ho : Lib.OthersKept 5 (some b) W W') (hw : Below w.heap.size W W') (h : SymS w o b s W) : SymS w o b s W' := by
  obtain ⟨g0, g1, g2, g3, g4, g5⟩ := h
  obtain ⟨e, g6⟩ := g5.others hw ho
  have hc : ∀ j, W'.cell? ⟨o, j, none⟩ = W.cell? ⟨o, j, none⟩ := fun j => World.cell?_of_block (w := W) (a := ⟨o, j, none⟩) e
  exact ⟨by rw [hc]; exact g0, by rw [hc]; exact g1, by rw [hc]; exact g2, by rw [hc]; exact g3, by rw [hc]; exact g4, g6⟩
theorem symS_glob {w : World} {o b : Nat} {s : Symbol} {W : World} (h : SymS w o b s W) : Glob Tryd.prog W := h.2.2.2.2.2.glob
theorem symS_size {w : World} {o b : Nat} {s : Symbol} {W : World} (h : SymS w o b s W) : w.heap.size ≤ W.heap.size := h.2.2.2.2.2.blw.size
theorem symS_below {w : World} {o b : Nat} {s : Symbol} {W : World} (h : SymS w o b s W) : Below w.heap.size w W := h.2.2.2.2.2.blw
theorem symLine_bl (s : Symbol) : bl (s.label ++ ⟨#[32]⟩ ++ itS s.box.x1 ++ ⟨#[32]⟩ ++ itS s.box.y1 ++ ⟨#[32]⟩ ++ itS s.box.x2 ++ ⟨#[32]⟩ ++ itS s.box.y2 ++ ⟨#[10]⟩) = symLineB s := by
  have ha : ∀ a b : ByteArray, bl (a ++ b) = bl a ++ bl b := fun a b => by
    rw [← strL_bl a, ← strL_bl b, strL_app, bl_strL, bl_strL, bl_strL]
  have h1 : bl (⟨#[32]⟩ : ByteArray) = [32] := rfl
  have h2 : bl (⟨#[10]⟩ : ByteArray) = [10] := rfl
  unfold symLineB
  simp only [ha, h1, h2]
set_option maxHeartbeats 4000000 in
theorem symWalkB (l : List Symbol) (hok : okSys l = true) (base : Option Addr) (cap : Nat) (w : World) (hg : Glob Tryd.prog w)
    (hcells : ∀ (k : Nat) s, l[k]? = some s → ∃ A off, base = some ⟨A, off, none⟩ ∧ w.cell? ⟨A, off + k * 5, none⟩ = some (.string s.label) ∧ w.cell? ⟨A, off + k * 5 + 1, none⟩ = some (.int .i64 s.box.x1) ∧ w.cell? ⟨A, off + k * 5 + 2, none⟩ = some (.int .i64 s.box.y1) ∧ w.cell? ⟨A, off + k * 5 + 3, none⟩ = some (.int .i64 s.box.x2) ∧ w.cell? ⟨A, off + k * 5 + 4, none⟩ = some (.int .i64 s.box.y2))
    (hval : Calls Tryd.prog 38 #[.slice base l.length cap] w fun e w' => e = .returned (.bool true) ∧ Below w.heap.size w w') :
    Calls Tryd.prog 15 #[.slice base l.length cap] w fun e w' => e = .returned (.string (strL (symTextB l))) ∧ Below w.heap.size w w' := by
  have mixed : Tryd.prog.follows .mixedOrders = true := by kernel_rfl
  go_enter Tryd.func15, Tryd.ntmps15
  go_wp2_with (go_at_call 38; refine hval.mono ?_)
  rintro e w1 ⟨rfl, b1⟩
  go_wp2
  go_loopw [11] (fun i wr => ∃ k : Nat, i = .int .i64 k ∧ k ≤ l.length ∧ BuildB w.heap.size w1.heap.size (symTextB (l.take k)) wr ∧ Below w.heap.size w wr) (fun i _ => l.length - (intOf i).toNat)
  case atStart => exact ⟨0, rfl, Nat.zero_le _, freshB b1.size, b1.alloc b1.size _⟩
  case round =>
    obtain ⟨k, rfl, hk, hI, hb⟩ := hrel
    by_cases hkl : k < l.length
    · obtain ⟨s, hs⟩ : ∃ s, l[k]? = some s := ⟨_, List.getElem?_eq_getElem hkl⟩
      obtain ⟨A, off, rfl, c0, c1, c2, c3, c4⟩ := hcells k s hs
      have hok' := okSys_mem hok s (List.mem_of_getElem? hs)
      obtain ⟨v0, v1, v2, v3, v4⟩ := okSym_v hok'
      have hA := block_lt_of_cell c0
      replace c0 := keepCellB hb hA c0
      replace c1 := keepCellB hb hA c1
      replace c2 := keepCellB hb hA c2
      replace c3 := keepCellB hb hA c3
      replace c4 := keepCellB hb hA c4
      have hi0 : (0 : Int) ≤ (k : Int) := by omega
      have hi1 : (k : Int) < (l.length : Int) := by omega
      go_wp2
      have hK : KeepB w 74 wr.heap.size w1.heap.size (wr.alloc (Obj.cells #[Value.string s.label, Value.int IntKind.i64 s.box.x1, Value.int IntKind.i64 s.box.y1, Value.int IntKind.i64 s.box.x2, Value.int IntKind.i64 s.box.y2] 74)) := keepB_start hb hg (build_lt hI) (by decide)
      have hJ := hI.alloc (Obj.cells #[Value.string s.label, Value.int IntKind.i64 s.box.x1, Value.int IntKind.i64 s.box.y1, Value.int IntKind.i64 s.box.x2, Value.int IntKind.i64 s.box.y2] 74)
      have hc : ∀ j, (wr.alloc (Obj.cells #[Value.string s.label, Value.int IntKind.i64 s.box.x1, Value.int IntKind.i64 s.box.y1, Value.int IntKind.i64 s.box.x2, Value.int IntKind.i64 s.box.y2] 74)).cell? ⟨wr.heap.size, j, none⟩ = #[Value.string s.label, Value.int IntKind.i64 s.box.x1, Value.int IntKind.i64 s.box.y1, Value.int IntKind.i64 s.box.x2, Value.int IntKind.i64 s.box.y2][j]? := fun j => World.cell?_alloc_at _ _ _ _ rfl
      have hwk : IntKind.i64.wrap ((k : Int) + 1) = (k : Int) + 1 := by rw [IntKind.wrap_i64]; have := okSys_len hok; omega
      have d1 : s.box.x1 ≤ 1000000 := by omega
      have d2 : s.box.y1 ≤ 1000000 := by omega
      have d3 : s.box.x2 ≤ 1000000 := by omega
      have d4 : s.box.y2 ≤ 1000000 := by omega
      have i1 := (l01Dec_ok (n := s.box.x1) (by omega) (by omega)).2
      have i2 := (l01Dec_ok (n := s.box.y1) (by omega) (by omega)).2
      have i3 := (l01Dec_ok (n := s.box.x2) (by omega) (by omega)).2
      have i4 := (l01Dec_ok (n := s.box.y2) (by omega) (by omega)).2
      have n1 : ¬ (9223372036854775807 < s.label.size + 1) := by omega
      have n2 : ¬ (9223372036854775807 < s.label.size + 1 + (itS s.box.x1).size) := by omega
      have n3 : ¬ (9223372036854775807 < s.label.size + 1 + (itS s.box.x1).size + 1) := by omega
      have n4 : ¬ (9223372036854775807 < s.label.size + 1 + (itS s.box.x1).size + 1 + (itS s.box.y1).size) := by omega
      have n5 : ¬ (9223372036854775807 < s.label.size + 1 + (itS s.box.x1).size + 1 + (itS s.box.y1).size + 1) := by omega
      have n6 : ¬ (9223372036854775807 < s.label.size + 1 + (itS s.box.x1).size + 1 + (itS s.box.y1).size + 1 + (itS s.box.x2).size) := by omega
      have n7 : ¬ (9223372036854775807 < s.label.size + 1 + (itS s.box.x1).size + 1 + (itS s.box.y1).size + 1 + (itS s.box.x2).size + 1) := by omega
      have n8 : ¬ (9223372036854775807 < s.label.size + 1 + (itS s.box.x1).size + 1 + (itS s.box.y1).size + 1 + (itS s.box.x2).size + 1 + (itS s.box.y2).size) := by omega
      have n9 : ¬ (9223372036854775807 < s.label.size + 1 + (itS s.box.x1).size + 1 + (itS s.box.y1).size + 1 + (itS s.box.x2).size + 1 + (itS s.box.y2).size + 1) := by omega
      have n10 : (symTextB (l.take k)).length + (s.label ++ ⟨#[32]⟩ ++ itS s.box.x1 ++ ⟨#[32]⟩ ++ itS s.box.y1 ++ ⟨#[32]⟩ ++ itS s.box.x2 ++ ⟨#[32]⟩ ++ itS s.box.y2 ++ ⟨#[10]⟩).size ≤ 1000000 := by
        have h6 := flat_len (f := symLineB) (c := 86) (l := l.take k) (fun a ha => symLine_len (okSys_mem hok a (List.mem_of_mem_take ha)))
        have h7 : (l.take k).length ≤ 8 := by rw [List.length_take]; have := okSys_len hok; omega
        have h8 : 86 * (l.take k).length ≤ 86 * 8 := Nat.mul_le_mul_left _ h7
        have e1 : (⟨#[32]⟩ : ByteArray).size = 1 := rfl
        have e2 : (⟨#[10]⟩ : ByteArray).size = 1 := rfl
        simp only [ByteArray.size_append, e1, e2]
        unfold symTextB
        omega
      clear v0 i1 i2 i3 i4
      have g0 := hc 0
      have g1 := hc 1
      have g2 := hc 2
      have g3 := hc 3
      have g4 := hc 4
      go_region_held3 (fun w' => w'.cell? ⟨wr.heap.size, 0, none⟩ = some (.string s.label) ∧ w'.cell? ⟨wr.heap.size, 1, none⟩ = some (.int .i64 s.box.x1) ∧ w'.cell? ⟨wr.heap.size, 2, none⟩ = some (.int .i64 s.box.y1) ∧ w'.cell? ⟨wr.heap.size, 3, none⟩ = some (.int .i64 s.box.x2) ∧ w'.cell? ⟨wr.heap.size, 4, none⟩ = some (.int .i64 s.box.y2) ∧ KeepB w 74 wr.heap.size w1.heap.size w')
        (first | (exact symS_keep (by assumption) (by assumption)) | (exact symS_others (by assumption) (by assumption) (by assumption)) | (refine ⟨?_, ?_, ?_, ?_, ?_, ?_⟩ <;> first | assumption | exact KeepB.drew (by assumption)))
        (first
          | (go_at_call_of 31 (Value.int .i64 s.box.x1); refine (decB v1.1 d1 ?_).mono ?_; (exact symS_glob (by assumption)); rintro e w' ⟨rfl, hd⟩)
          | (go_at_call_of 31 (Value.int .i64 s.box.y1); refine (decB v2.1 d2 ?_).mono ?_; (exact symS_glob (by assumption)); rintro e w' ⟨rfl, hd⟩)
          | (go_at_call_of 31 (Value.int .i64 s.box.x2); refine (decB v3.1 d3 ?_).mono ?_; (exact symS_glob (by assumption)); rintro e w' ⟨rfl, hd⟩)
          | (go_at_call_of 31 (Value.int .i64 s.box.y2); refine (decB v4.1 d4 ?_).mono ?_; (exact symS_glob (by assumption)); rintro e w' ⟨rfl, hd⟩)
          | (go_at_call 30; refine (bwriteK w.heap.size w1.heap.size (symTextB (l.take k)) _ _ ?_ n10 ?_).mono ?_; (exact build4 (by assumption) (by assumption) (by assumption) (by assumption) (by assumption)); (exact symS_size (by assumption)); rintro e w' ⟨rfl, hw1, hw2, hw3⟩))
      go_wp2
      go_roundw
      case rel =>
        refine ⟨k + 1, by push_cast; rfl, by omega, ?_, symS_below (by assumption)⟩
        rw [show symTextB (l.take (k + 1)) = symTextB (l.take k) ++ symLineB s from flat_take _ hs, ← symLine_bl]
        exact hw1
      case measure =>
        simp [intOf]
        omega
    · go_wp2_with (go_at_call 32; refine (bstrB w.heap.size w1.heap.size (symTextB (l.take k)) _ hI hb.size).mono ?_)
      rintro e w2 ⟨rfl, b2⟩
      go_wp2
      go_ret
      have e : k = l.length := by omega
      subst e
      rw [List.take_length]
      exact ⟨rfl, hb.trans b2⟩
end

section
open Go.Shelf Go.RowKit
abbrev ModS (w : World) (o b : Nat) (g : Bigram) (W : World) : Prop :=
  W.cell? ⟨o, 0, none⟩ = some (.string g.first) ∧ W.cell? ⟨o, 1, none⟩ = some (.string g.second) ∧ W.cell? ⟨o, 2, none⟩ = some (.int .i64 g.cost) ∧ KeepB w 63 o b W
theorem modS_keep {w : World} {o b : Nat} {g : Bigram} {W W' : World} (hd : Below W.heap.size W W') (h : ModS w o b g W) : ModS w o b g W' := by
  obtain ⟨g0, g1, g2, g5⟩ := h
  exact ⟨keepCellB hd g5.lt g0, keepCellB hd g5.lt g1, keepCellB hd g5.lt g2, g5.keep hd⟩
theorem modS_others {w : World} {o b : Nat} {g : Bigram} {W W' : World} (ho : Lib.OthersKept 5 (some b) W W') (hw : Below w.heap.size W W') (h : ModS w o b g W) : ModS w o b g W' := by
  obtain ⟨g0, g1, g2, g5⟩ := h
  obtain ⟨e, g6⟩ := g5.others hw ho
  have hc : ∀ j, W'.cell? ⟨o, j, none⟩ = W.cell? ⟨o, j, none⟩ := fun j => World.cell?_of_block (w := W) (a := ⟨o, j, none⟩) e
  exact ⟨by rw [hc]; exact g0, by rw [hc]; exact g1, by rw [hc]; exact g2, g6⟩
theorem modS_glob {w : World} {o b : Nat} {g : Bigram} {W : World} (h : ModS w o b g W) : Glob Tryd.prog W := h.2.2.2.glob
theorem modS_size {w : World} {o b : Nat} {g : Bigram} {W : World} (h : ModS w o b g W) : w.heap.size ≤ W.heap.size := h.2.2.2.blw.size
theorem modS_below {w : World} {o b : Nat} {g : Bigram} {W : World} (h : ModS w o b g W) : Below w.heap.size w W := h.2.2.2.blw
theorem build1 {B b : Nat} {l : List UInt8} {W0 W1 : World} (h1 : Below W0.drew.heap.size W0.drew W1) (h : BuildB B b l W0) : BuildB B b l W1 :=
  Lib.IsBuilderF.below (Lib.IsBuilderF.below h (Below.refl _ _).drew) h1
theorem emptyB {s : ByteArray} : s.toList.isEmpty = true ↔ s = ⟨#[]⟩ := by
  rw [ByteArray.toList_eq]
  constructor
  · intro h
    apply ByteArray.ext
    simpa using h
  · rintro rfl
    rfl
theorem bl_appB (a b : ByteArray) : bl (a ++ b) = bl a ++ bl b := by
  rw [← strL_bl a, ← strL_bl b, strL_app, bl_strL, bl_strL, bl_strL]
theorem modHead_bl (d : Int) : bl ((⟨#[100, 101, 102, 97, 117, 108, 116, 32]⟩ : ByteArray) ++ itS d ++ ⟨#[10]⟩) = modHeadB d := by
  have h1 : bl (⟨#[100, 101, 102, 97, 117, 108, 116, 32]⟩ : ByteArray) = [100, 101, 102, 97, 117, 108, 116, 32] := rfl
  have h2 : bl (⟨#[10]⟩ : ByteArray) = [10] := rfl
  unfold modHeadB
  simp only [bl_appB, h1, h2]
theorem bigLine_bl (f : ByteArray) (g : Bigram) (hf : g.first = ⟨#[]⟩ ∧ f = ⟨#[45]⟩ ∨ g.first ≠ ⟨#[]⟩ ∧ f = g.first) : bl (f ++ ⟨#[32]⟩ ++ g.second ++ ⟨#[32]⟩ ++ itS g.cost ++ ⟨#[10]⟩) = bigLineB g := by
  have h1 : bl (⟨#[32]⟩ : ByteArray) = [32] := rfl
  have h2 : bl (⟨#[10]⟩ : ByteArray) = [10] := rfl
  have h3 : bl (⟨#[45]⟩ : ByteArray) = [45] := rfl
  unfold bigLineB
  rcases hf with ⟨e, rfl⟩ | ⟨e, rfl⟩
  · rw [decide_eq_true e]
    simp only [bl_appB, h1, h2, h3, cond_true]
  · rw [decide_eq_false e]
    simp only [bl_appB, h1, h2, cond_false]
set_option maxHeartbeats 4000000 in
theorem modWalkB (m : Model) (l : List Bigram) (hm : m.bigrams.getD [] = l) (hok : modB m = true) (base : Option Addr) (cap : Nat) (w : World) (hg : Glob Tryd.prog w)
    (hcells : ∀ (k : Nat) g, l[k]? = some g → ∃ A off, base = some ⟨A, off, none⟩ ∧ w.cell? ⟨A, off + k * 3, none⟩ = some (.string g.first) ∧ w.cell? ⟨A, off + k * 3 + 1, none⟩ = some (.string g.second) ∧ w.cell? ⟨A, off + k * 3 + 2, none⟩ = some (.int .i64 g.cost))
    (hval : Calls Tryd.prog 29 #[.agg #[.int .i64 m.default, .slice base l.length cap]] (w.alloc (.cells #[.int .i64 m.default, .slice base l.length cap] 29)) fun e w' => e = .returned (.bool true) ∧ Below (w.heap.size + 1) (w.alloc (.cells #[.int .i64 m.default, .slice base l.length cap] 29)) w') :
    Calls Tryd.prog 10 #[.agg #[.int .i64 m.default, .slice base l.length cap]] w fun e w' => e = .returned (.string (strL (modTextB m))) ∧ Below w.heap.size w w' := by
  have mixed : Tryd.prog.follows .mixedOrders = true := by kernel_rfl
  obtain ⟨hbig, hd, hl60⟩ := modB_v hok
  rw [hm] at hbig hl60
  obtain ⟨w0, hw0⟩ : ∃ w0, w0 = w.alloc (.cells #[.int .i64 m.default, .slice base l.length cap] 29) := ⟨_, rfl⟩
  have hs0 : w0.heap.size = w.heap.size + 1 := by rw [hw0]; simp
  have bw : Below w.heap.size w w0 := by rw [hw0]; exact (Below.refl _ w).alloc (Nat.le_refl _) _
  have hc0 : ∀ j, w0.cell? ⟨w.heap.size, j, none⟩ = #[Value.int .i64 m.default, .slice base l.length cap][j]? := fun j => by rw [hw0]; exact World.cell?_alloc_at _ _ _ _ rfl
  go_enter Tryd.func10, Tryd.ntmps10
  go_wp2_with (go_at_call 29; refine hval.mono ?_)
  rintro e w1 ⟨rfl, b1⟩
  rw [← hw0, ← hs0] at b1
  have g1 : Glob Tryd.prog w1 := glob_belowB (glob_belowB hg bw) b1
  have c0 : w1.cell? ⟨w.heap.size, 0, none⟩ = some (.int .i64 m.default) := keepCellB b1 (by omega) (hc0 0)
  have hlt1 : w.heap.size < w1.heap.size := by have := b1.size; omega
  have d0 : (w1.alloc (Obj.cells #[Value.pointer none, Value.slice none 0 0] 56)).cell? ⟨w.heap.size, 0, none⟩ = some (.int .i64 m.default) := by
    rw [World.cell?_alloc_past (w := w1) _ w.heap.size 0 hlt1]
    exact c0
  have b2 : Below w0.heap.size w0 (w1.alloc (Obj.cells #[Value.pointer none, Value.slice none 0 0] 56)) := b1.alloc b1.size _
  have g2 : Glob Tryd.prog (w1.alloc (Obj.cells #[Value.pointer none, Value.slice none 0 0] 56)) := glob_belowB g1 ((Below.refl _ w1).alloc (Nat.le_refl _) _)
  have hJ := freshB (B := w0.heap.size) (w := w1) b1.size
  have i0 := (l01Dec_ok (n := m.default) (by omega) (by omega)).2
  have n1 : ¬ (9223372036854775807 < 8 + (itS m.default).size) := by omega
  have n2 : ¬ (9223372036854775807 < 8 + (itS m.default).size + 1) := by omega
  have n3 : ([] : List UInt8).length + ((⟨#[100, 101, 102, 97, 117, 108, 116, 32]⟩ : ByteArray) ++ itS m.default ++ ⟨#[10]⟩).size ≤ 1000000 := by
    have e1 : (⟨#[100, 101, 102, 97, 117, 108, 116, 32]⟩ : ByteArray).size = 8 := rfl
    have e2 : (⟨#[10]⟩ : ByteArray).size = 1 := rfl
    simp only [ByteArray.size_append, e1, e2, List.length_nil]
    omega
  clear i0
  go_wp2_with (go_at_call 31; refine (decB (n := m.default) hd.1 hd.2 g2).mono ?_)
  rintro e w3 ⟨rfl, b3⟩
  have hJ3 : BuildB w0.heap.size w1.heap.size [] w3 := Lib.IsBuilderF.below hJ b3
  have b3' : Below w0.heap.size w0 w3 := b2.trans (b3.mono b2.size)
  go_wp2_with (go_at_call 30; refine (bwriteB w0.heap.size w1.heap.size [] _ w3 hJ3 n3 b3'.size).mono ?_)
  rintro e w4 ⟨rfl, hJ4, b4⟩
  rw [List.nil_append, modHead_bl] at hJ4
  have b4' : Below w0.heap.size w0 w4 := b3'.trans b4
  have c1 : w4.cell? ⟨w.heap.size, 1, none⟩ = some (.slice base l.length cap) := keepCellB b4' (by omega) (hc0 1)
  go_wp2
  go_loopw [19] (fun i wr => ∃ k : Nat, i = .int .i64 k ∧ k ≤ l.length ∧ BuildB w0.heap.size w1.heap.size (modHeadB m.default ++ (l.take k).flatMap bigLineB) wr ∧ Below w0.heap.size w0 wr) (fun i _ => l.length - (intOf i).toNat)
  case atStart => exact ⟨0, rfl, Nat.zero_le _, by simpa using hJ4, b4'⟩
  case round =>
    obtain ⟨k, rfl, hk, hI, hb⟩ := hrel
    by_cases hkl : k < l.length
    · obtain ⟨g, hs⟩ : ∃ g, l[k]? = some g := ⟨_, List.getElem?_eq_getElem hkl⟩
      obtain ⟨A, off, rfl, c0, c1, c2⟩ := hcells k g hs
      obtain ⟨v0, v1, v2⟩ := valBig_v (hbig g (List.mem_of_getElem? hs))
      have hA := block_lt_of_cell c0
      replace c0 := keepCellB hb (by omega) (keepCellB bw hA c0)
      replace c1 := keepCellB hb (by omega) (keepCellB bw hA c1)
      replace c2 := keepCellB hb (by omega) (keepCellB bw hA c2)
      have hi0 : (0 : Int) ≤ (k : Int) := by omega
      have hi1 : (k : Int) < (l.length : Int) := by omega
      have hwk : IntKind.i64.wrap ((k : Int) + 1) = (k : Int) + 1 := by rw [IntKind.wrap_i64]; omega
      have hK : KeepB w0 63 wr.heap.size w1.heap.size (wr.alloc (Obj.cells #[Value.string g.first, Value.string g.second, Value.int IntKind.i64 g.cost] 63)) := keepB_start hb (glob_belowB hg bw) (build_lt hI) (by decide)
      have hJ := hI.alloc (Obj.cells #[Value.string g.first, Value.string g.second, Value.int IntKind.i64 g.cost] 63)
      have hc : ∀ j, (wr.alloc (Obj.cells #[Value.string g.first, Value.string g.second, Value.int IntKind.i64 g.cost] 63)).cell? ⟨wr.heap.size, j, none⟩ = #[Value.string g.first, Value.string g.second, Value.int IntKind.i64 g.cost][j]? := fun j => World.cell?_alloc_at _ _ _ _ rfl
      have q0 := hc 0
      have q1 := hc 1
      have q2 := hc 2
      have i1 := (l01Dec_ok (n := g.cost) (by omega) (by omega)).2
      have acc : (modHeadB m.default ++ (l.take k).flatMap bigLineB).length ≤ 100000 := by
        have h6 := flat_len (f := bigLineB) (c := 43) (l := l.take k) (fun a ha => bigLine_len (hbig a (List.mem_of_mem_take ha)))
        have h7 : (l.take k).length ≤ 60 := by rw [List.length_take]; omega
        have h8 : 43 * (l.take k).length ≤ 43 * 60 := Nat.mul_le_mul_left _ h7
        have h9 : (modHeadB m.default).length ≤ 29 := by
          obtain ⟨D, _, e0, l0, _⟩ := itL (n := m.default) (by omega) (by omega)
          unfold modHeadB
          rw [e0]
          simp only [List.length_append, List.length_cons, List.length_nil]
          omega
        rw [List.length_append]
        omega
      cases he : g.first.toList.isEmpty with
      | true =>
        go_wp2
        generalize hfs : (⟨#[45]⟩ : ByteArray) = f
        have hfd : f.data = #[45] := by rw [← hfs]
        replace hfs : f.size = 1 := by rw [← hfs]; rfl
        have n1 : ¬ (9223372036854775807 < f.size + 1) := by omega
        have n2 : ¬ (9223372036854775807 < f.size + 1 + g.second.size) := by omega
        have n3 : ¬ (9223372036854775807 < f.size + 1 + g.second.size + 1) := by omega
        have n4 : ¬ (9223372036854775807 < f.size + 1 + g.second.size + 1 + (itS g.cost).size) := by omega
        have n5 : ¬ (9223372036854775807 < f.size + 1 + g.second.size + 1 + (itS g.cost).size + 1) := by omega
        have n6 : (modHeadB m.default ++ (l.take k).flatMap bigLineB).length + (f ++ ⟨#[32]⟩ ++ g.second ++ ⟨#[32]⟩ ++ itS g.cost ++ ⟨#[10]⟩).size ≤ 1000000 := by
          have e1 : (⟨#[32]⟩ : ByteArray).size = 1 := rfl
          have e2 : (⟨#[10]⟩ : ByteArray).size = 1 := rfl
          simp only [ByteArray.size_append, e1, e2]
          omega
        clear i1 v0 v1 hfs
        go_region_held3 (fun w' => w'.cell? ⟨wr.heap.size, 0, none⟩ = some (.string g.first) ∧ w'.cell? ⟨wr.heap.size, 1, none⟩ = some (.string g.second) ∧ w'.cell? ⟨wr.heap.size, 2, none⟩ = some (.int .i64 g.cost) ∧ KeepB w0 63 wr.heap.size w1.heap.size w')
          (first | (exact modS_keep (by assumption) (by assumption)) | (exact modS_others (by assumption) (by assumption) (by assumption)) | (refine ⟨?_, ?_, ?_, ?_⟩ <;> first | assumption | exact KeepB.drew (by assumption)))
          (first
            | (go_at_call_of 31 (Value.int .i64 g.cost); refine (decB v2.1 v2.2 ?_).mono ?_; (exact modS_glob (by assumption)); rintro e w' ⟨rfl, hd⟩)
            | (go_at_call 30; refine (bwriteK w0.heap.size w1.heap.size (modHeadB m.default ++ (l.take k).flatMap bigLineB) _ _ ?_ n6 ?_).mono ?_; (exact build1 (by assumption) (by assumption)); (exact modS_size (by assumption)); rintro e w' ⟨rfl, hw1, hw2, hw3⟩))
        go_wp2
        go_roundw
        case rel =>
          refine ⟨k + 1, by push_cast; rfl, by omega, ?_, modS_below (by assumption)⟩
          rw [flat_take _ hs, ← List.append_assoc, ← bigLine_bl f g (.inl ⟨emptyB.1 he, ByteArray.ext hfd⟩)]
          exact hw1
        case measure =>
          simp [intOf]
          omega
      | false =>
        go_wp2
        have hfs := v0
        have n1 : ¬ (9223372036854775807 < g.first.size + 1) := by omega
        have n2 : ¬ (9223372036854775807 < g.first.size + 1 + g.second.size) := by omega
        have n3 : ¬ (9223372036854775807 < g.first.size + 1 + g.second.size + 1) := by omega
        have n4 : ¬ (9223372036854775807 < g.first.size + 1 + g.second.size + 1 + (itS g.cost).size) := by omega
        have n5 : ¬ (9223372036854775807 < g.first.size + 1 + g.second.size + 1 + (itS g.cost).size + 1) := by omega
        have n6 : (modHeadB m.default ++ (l.take k).flatMap bigLineB).length + (g.first ++ ⟨#[32]⟩ ++ g.second ++ ⟨#[32]⟩ ++ itS g.cost ++ ⟨#[10]⟩).size ≤ 1000000 := by
          have e1 : (⟨#[32]⟩ : ByteArray).size = 1 := rfl
          have e2 : (⟨#[10]⟩ : ByteArray).size = 1 := rfl
          simp only [ByteArray.size_append, e1, e2]
          omega
        clear i1 v0 v1 hfs
        go_region_held3 (fun w' => w'.cell? ⟨wr.heap.size, 0, none⟩ = some (.string g.first) ∧ w'.cell? ⟨wr.heap.size, 1, none⟩ = some (.string g.second) ∧ w'.cell? ⟨wr.heap.size, 2, none⟩ = some (.int .i64 g.cost) ∧ KeepB w0 63 wr.heap.size w1.heap.size w')
          (first | (exact modS_keep (by assumption) (by assumption)) | (exact modS_others (by assumption) (by assumption) (by assumption)) | (refine ⟨?_, ?_, ?_, ?_⟩ <;> first | assumption | exact KeepB.drew (by assumption)))
          (first
            | (go_at_call_of 31 (Value.int .i64 g.cost); refine (decB v2.1 v2.2 ?_).mono ?_; (exact modS_glob (by assumption)); rintro e w' ⟨rfl, hd⟩)
            | (go_at_call 30; refine (bwriteK w0.heap.size w1.heap.size (modHeadB m.default ++ (l.take k).flatMap bigLineB) _ _ ?_ n6 ?_).mono ?_; (exact build1 (by assumption) (by assumption)); (exact modS_size (by assumption)); rintro e w' ⟨rfl, hw1, hw2, hw3⟩))
        go_wp2
        go_roundw
        case rel =>
          refine ⟨k + 1, by push_cast; rfl, by omega, ?_, modS_below (by assumption)⟩
          rw [flat_take _ hs, ← List.append_assoc, ← bigLine_bl g.first g (.inr ⟨fun e => Bool.noConfusion (he.symm.trans (emptyB.2 e)), rfl⟩)]
          exact hw1
        case measure =>
          simp [intOf]
          omega
    · go_wp2_with (go_at_call 32; refine (bstrB w0.heap.size w1.heap.size _ _ hI hb.size).mono ?_)
      rintro e w5 ⟨rfl, b5⟩
      go_wp2
      go_ret
      have e : k = l.length := by omega
      subst e
      rw [List.take_length]
      rw [show modTextB m = modHeadB m.default ++ l.flatMap bigLineB by unfold modTextB; rw [hm]]
      exact ⟨rfl, bw.trans ((hb.trans b5).mono (by omega))⟩
end

section
open Go.Shelf Go.RowKit
/-! ### The contracts of the two functions -/
theorem hasSymB : HasBody Tryd.prog 15 := ⟨Tryd.f15, _, Tryd.func15, rfl, rfl⟩
theorem hasModB : HasBody Tryd.prog 10 := ⟨Tryd.f10, _, Tryd.func10, rfl, rfl⟩
theorem belowD_of {B : Nat} {w w' : World} (h : Below B w w') : BelowD B w w' := ⟨h, fun c => c.elim⟩
theorem c1_inv {A Z : Type} [Cod A] {e : Z → AV} {t : A → Option Z} {ds : List AV} {r : AV} (h : C1 e t ds = some r) : ∃ a z, ds = [enc a] ∧ t a = some z ∧ r = e z := by
  match ds, h with
  | [x], h =>
    have h2 : obind (dec x) (fun a0 => obind (t a0) fun c => some (e c)) = some r := h
    obtain ⟨a, h3, h4⟩ := obind_some h2
    obtain ⟨z, h5, h6⟩ := obind_some h4
    cases h6
    exact ⟨a, z, by rw [Cod.ed _ _ h3], h5, rfl⟩
theorem arr_one {vs : Array Value} {x : AV} (h : vs.size = [x].length) : ∃ v, vs = #[v] := by
  match vs, h with
  | ⟨[v]⟩, _ => exact ⟨v, rfl⟩
theorem valSysB {l : Sl Symbol} {X : Nat → Prop} {w : World} {v : Value} (hl : (l.getD []).length ≤ 4294967296) (hg : Glob Tryd.prog w) (hv : Rep (Own X RM.none) w RM.none (Sl.enc l) v) :
    Calls Tryd.prog 38 #[v] w fun e w' => e = .returned (.bool (okSys (l.getD []))) ∧ Below w.heap.size w w' := by
  have e0 : (C1 (fun c : Bool => enc c) t_impl_ValidSymbols) [enc l] = some (bv (okSys (l.getD []))) := by
    have : (C1 (fun c : Bool => enc c) t_impl_ValidSymbols) [enc l] = obind (t_impl_ValidSymbols l) fun c => some (enc c) := R1_enc _ _
    rw [this, validSys_ok l hl]
    rfl
  have hp := tt_impl_ValidSymbols [enc l] _ e0 X w #[v] hg rfl (fun i d u h2 h3 => by
    match i, h2, h3 with
    | 0, h2, h3 => cases h2; cases h3; exact hv)
  refine (callsB hb_impl_ValidSymbols hp).mono fun e w' ⟨u, e1, e2, e3⟩ => ⟨?_, e2.toBelow⟩
  rw [e1, repN_bvB e3]
theorem symNoB (v : Value) (w : World) (hval : Calls Tryd.prog 38 #[v] w fun e w' => e = .returned (.bool false) ∧ Below w.heap.size w w') :
    Calls Tryd.prog 15 #[v] w fun e w' => e = .returned (.string ⟨#[]⟩) ∧ Below w.heap.size w w' := by
  have mixed : Tryd.prog.follows .mixedOrders = true := by kernel_rfl
  go_enter Tryd.func15, Tryd.ntmps15
  go_wp2_with (go_at_call 38; refine hval.mono ?_)
  rintro e w1 ⟨rfl, b1⟩
  go_wp2
  go_ret
  exact ⟨rfl, b1⟩
theorem rowB {A : Type} [Row A] {l : List A} {k j : Nat} {a : A} {c : AV} (h : l[k]? = some a) (hj : (Row.cells a)[j]? = some c) : cellAt (l.map Row.cells) k j = some c := by
  unfold cellAt
  rw [List.getElem?_map, h]
  exact hj
theorem rep_svB {own : Nat → Prop} {w : World} {ρ : RM} {s : ByteArray} {v : Value} (h : Rep own w ρ (sv s) v) : v = .string s := by cases h; rfl
theorem rep_ivB {own : Nat → Prop} {w : World} {ρ : RM} {n : Int} {v : Value} (h : Rep own w ρ (iv n) v) : v = .int .i64 n := by cases h; rfl
/-- A slice of rows that is read: where its cells lie. -/
theorem slB {A : Type} [Row A] {l : Sl A} {own : Nat → Prop} {w : World} {ρ : RM} {v : Value} (h : Rep own w ρ (Sl.enc l) v) :
    ∃ base cap, v = .slice base (l.getD []).length cap ∧ ∀ (k : Nat) a, (l.getD [])[k]? = some a → ∃ B off, base = some ⟨B, off, none⟩ ∧ ∀ (j : Nat) c, (Row.cells a)[j]? = some c → ∃ u, w.cell? ⟨B, off + k * Row.w A + j, none⟩ = some u ∧ Rep own w RM.none c u := by
  cases l with
  | none =>
    cases h
    exact ⟨none, 0, rfl, fun k a h => by simp at h⟩
  | some l =>
    generalize hr : Sl.enc (some l) = d at h
    cases h with
    | @fs _ k rows a cap cf hk hc ha hown hcell hh =>
      have hr2 : (AV.fs (Row.w A) (l.map Row.cells)) = .fs k rows := hr
      cases hr2
      refine ⟨some a, cap, by simp, fun i x hx => ?_⟩
      have hlt : i < l.length := (List.getElem?_eq_some_iff.1 hx).1
      have hs := ha (by simp; omega)
      obtain ⟨B, off, spot⟩ := a
      simp only at hs
      subst hs
      exact ⟨B, off, rfl, fun j c hj => ⟨cf i j, hcell i j c (rowB hx hj), hh i j c (rowB hx hj)⟩⟩
    | sc _ => cases hr
    | top => cases hr
    | agg _ _ _ => cases hr
    | tup _ _ => cases hr
    | ptr _ _ _ => cases hr
    | sl _ _ _ => cases hr
    | fptr _ _ _ _ => cases hr
    | fn _ _ => cases hr
theorem tt_impl_SymbolsText : PureOK Tryd.prog n_impl_SymbolsText (C1 (fun c : ByteArray => enc c) t_impl_SymbolsText) := by
  intro ds r hf X w vs hg hn hvs
  obtain ⟨l, z, rfl, ht, rfl⟩ := c1_inv hf
  obtain ⟨v, rfl⟩ := arr_one hn
  have hv := hvs 0 _ v rfl rfl
  unfold t_impl_SymbolsText at ht
  cases hl : decide ((l.getD []).length ≤ 4294967296) with
  | false => rw [hl, cond_false] at ht; cases ht
  | true =>
    rw [hl, cond_true] at ht
    have hl := of_decide_eq_true hl
    unfold CallF
    rw [callFunc_body hasSymB]
    show Calls Tryd.prog 15 _ w _
    have hval := valSysB hl hg hv
    cases ho : okSys (l.getD []) with
    | false =>
      rw [ho, cond_false] at ht
      cases ht
      rw [ho] at hval
      refine (symNoB v w hval).mono fun e w' ⟨h1, h2⟩ => ⟨_, h1, belowD_of h2, repN_sc rfl⟩
    | true =>
      rw [ho, cond_true] at ht
      cases ht
      rw [ho] at hval
      obtain ⟨base, cap, rfl, hc⟩ := slB hv
      refine (symWalkB (l.getD []) ho base cap w hg (fun k s hs => ?_) hval).mono fun e w' ⟨h1, h2⟩ => ⟨_, h1, belowD_of h2, repN_sc rfl⟩
      obtain ⟨B, off, hb, hcc⟩ := hc k s hs
      obtain ⟨u0, c0, r0⟩ := hcc 0 (sv s.label) rfl
      obtain ⟨u1, c1, r1⟩ := hcc 1 (iv s.box.x1) rfl
      obtain ⟨u2, c2, r2⟩ := hcc 2 (iv s.box.y1) rfl
      obtain ⟨u3, c3, r3⟩ := hcc 3 (iv s.box.x2) rfl
      obtain ⟨u4, c4, r4⟩ := hcc 4 (iv s.box.y2) rfl
      rw [rep_svB r0] at c0
      rw [rep_ivB r1] at c1
      rw [rep_ivB r2] at c2
      rw [rep_ivB r3] at c3
      rw [rep_ivB r4] at c4
      exact ⟨B, off, hb, c0, c1, c2, c3, c4⟩
end

section
open Go.Shelf Go.RowKit
theorem modNoB (x : Value) (d base : Value) (hx : x = .agg #[d, base]) (hd1 : d.oneCell' = true) (hb1 : base.oneCell' = true) (w : World) (hval : Calls Tryd.prog 29 #[x] (w.alloc (.cells #[d, base] 29)) fun e w' => e = .returned (.bool false) ∧ Below (w.heap.size + 1) (w.alloc (.cells #[d, base] 29)) w') :
    Calls Tryd.prog 10 #[x] w fun e w' => e = .returned (.string ⟨#[]⟩) ∧ Below w.heap.size w w' := by
  subst hx
  have mixed : Tryd.prog.follows .mixedOrders = true := by kernel_rfl
  go_enter Tryd.func10, Tryd.ntmps10
  go_wp2_with (go_at_call 29; refine hval.mono ?_)
  rintro e w1 ⟨rfl, b1⟩
  go_wp2
  go_ret
  exact ⟨rfl, ((Below.refl _ w).alloc (Nat.le_refl _) _).trans (b1.mono (by omega))⟩
theorem valModB {m : Model} {X : Nat → Prop} {w W : World} {v : Value} (hs : smallBigs m) (hg : Glob Tryd.prog w) (hb : Below w.heap.size w W) (hv : Rep (Own X RM.none) w RM.none (enc m) v) :
    Calls Tryd.prog 29 #[v] W fun e w' => e = .returned (.bool (modB m)) ∧ Below W.heap.size W w' := by
  have e0 : (C1 (fun c : Bool => enc c) t_impl_ValidModel) [enc m] = some (bv (modB m)) := by
    have : (C1 (fun c : Bool => enc c) t_impl_ValidModel) [enc m] = obind (t_impl_ValidModel m) fun c => some (enc c) := R1_enc _ _
    rw [this, implMod_ok hs]
    rfl
  have hv' : Rep (Own (fun b => X b ∨ w.heap.size ≤ b) RM.none) W RM.none (enc m) v := hv.mono (fun b hlt hn => ⟨fun hh => by
      rcases hh with (hh | hh) | ⟨x, i, e, _⟩
      · exact hn (.inl hh)
      · omega
      · exact absurd e (by simp [RM.none]), hb.block b hlt⟩) RM.none (fun o io e => by cases e)
  have hp := tt_impl_ValidModel [enc m] _ e0 _ W #[v] (glob_belowB hg hb) rfl (fun i d u h2 h3 => by
    match i, h2, h3 with
    | 0, h2, h3 => cases h2; cases h3; exact hv')
  refine (callsB hb_impl_ValidModel hp).mono fun e w' ⟨u, e1, e2, e3⟩ => ⟨?_, e2.toBelow⟩
  rw [e1, repN_bvB e3]
theorem rep_modelB {m : Model} {own : Nat → Prop} {w : World} {ρ : RM} {v : Value} (h : Rep own w ρ (enc m) v) : ∃ u, v = .agg #[.int .i64 m.default, u] ∧ Rep own w ρ (Sl.enc m.bigrams) u := by
  have e : (enc m : AV) = .agg [iv m.default, Sl.enc m.bigrams] := rfl
  rw [e] at h
  cases h with
  | @agg _ cs vs hf hn hh =>
    match vs, hn with
    | ⟨[a, u]⟩, _ =>
      have h0 := hh 0 _ a rfl rfl
      have h1 := hh 1 _ u rfl rfl
      cases rep_ivB h0
      exact ⟨u, rfl, h1⟩
theorem tt_impl_ModelText : PureOK Tryd.prog n_impl_ModelText (C1 (fun c : ByteArray => enc c) t_impl_ModelText) := by
  intro ds r hf X w vs hg hn hvs
  obtain ⟨m, z, rfl, ht, rfl⟩ := c1_inv hf
  obtain ⟨v, rfl⟩ := arr_one hn
  have hv := hvs 0 _ v rfl rfl
  unfold t_impl_ModelText at ht
  cases hl : fitBigs m with
  | false => rw [hl, cond_false] at ht; cases ht
  | true =>
    rw [hl, cond_true] at ht
    have hs := fitBigs_small hl
    unfold CallF
    rw [callFunc_body hasModB]
    show Calls Tryd.prog 10 _ w _
    obtain ⟨u, rfl, hu⟩ := rep_modelB hv
    obtain ⟨base, cap, rfl, hc⟩ := slB hu
    have hval := valModB (W := w.alloc (.cells #[.int .i64 m.default, .slice base (m.bigrams.getD []).length cap] 29)) hs hg ((Below.refl _ w).alloc (Nat.le_refl _) _) hv
    rw [show (w.alloc (.cells #[.int .i64 m.default, .slice base (m.bigrams.getD []).length cap] 29)).heap.size = w.heap.size + 1 by simp] at hval
    cases ho : modB m with
    | false =>
      rw [ho, cond_false] at ht
      cases ht
      rw [ho] at hval
      exact (modNoB _ _ _ rfl rfl rfl w hval).mono fun e w' ⟨h1, h2⟩ => ⟨_, h1, belowD_of h2, repN_sc rfl⟩
    | true =>
      rw [ho, cond_true] at ht
      cases ht
      rw [ho] at hval
      refine (modWalkB m (m.bigrams.getD []) rfl ho base cap w hg (fun k s hs => ?_) hval).mono fun e w' ⟨h1, h2⟩ => ⟨_, h1, belowD_of h2, repN_sc rfl⟩
      obtain ⟨B, off, hb, hcc⟩ := hc k s hs
      obtain ⟨u0, c0, r0⟩ := hcc 0 (sv s.first) rfl
      obtain ⟨u1, c1, r1⟩ := hcc 1 (sv s.second) rfl
      obtain ⟨u2, c2, r2⟩ := hcc 2 (iv s.cost) rfl
      rw [rep_svB r0] at c0
      rw [rep_svB r1] at c1
      rw [rep_ivB r2] at c2
      exact ⟨B, off, hb, c0, c1, c2⟩
end

def t_laws_FnExactModelText (aM_ : Model) : Option Bool :=
  obind (t_laws_szModel aM_ 1048576) fun c5 =>
  bif decide (c5 < 0) then
    some true
  else
    obind (t_laws_toModel aM_) fun c7 =>
    obind (t_spec_ModelText c7) fun c12 =>
    obind (t_laws_toModel aM_) fun c13 =>
    obind (t_impl_ModelText c13) fun c24 =>
    bif !decide (c24 = c12) then
      some false
    else
      obind (t_laws_toModel aM_) fun c26 =>
      obind (t_laws_eqModel c13 c26) fun c31 =>
      bif !c31 then
        some false
      else
        some true

theorem ts_laws_FnExactModelText (env : Nat → Contract) (he_impl_ModelText : env n_impl_ModelText = .pure (C1 (fun c : ByteArray => enc c) t_impl_ModelText)) (he_laws_eqModel : env n_laws_eqModel = .pure (C2 (fun c : Bool => enc c) t_laws_eqModel)) (he_laws_szModel : env n_laws_szModel = .pure (C2 (fun c : Int => enc c) t_laws_szModel)) (he_laws_toModel : env n_laws_toModel = .pure (C1 (fun c : Model => AV.agg [iv c.default, rS c.bigrams]) t_laws_toModel)) (he_spec_ModelText : env n_spec_ModelText = .pure (C1 (fun c : ByteArray => enc c) t_spec_ModelText)) (aM_ : Model) : Sim (denFn Tryd.prog env n_laws_FnExactModelText [AV.agg [iv aM_.default, Sl.enc aM_.bigrams]] []) (t_laws_FnExactModelText aM_) fun c p => release p.2 depth p.1 = some ((fun c : Bool => enc c) c) := by
  have O := Hold.nil []
  generalize hB : (⟨[], []⟩ : Base) = B at O
  clear hB
  rw [e_laws_FnExactModelText]
  unfold t_laws_FnExactModelText
  refine sim_box O (cs := [iv aM_.default, Sl.enc aM_.bigrams]) (by first | rfl | simp) (fun o1 h2 O3 => ?_)
  replace O3 : Hold B h2 [(AV.ptr o1 1 0 0, .pt 2 [iv aM_.default, Sl.enc aM_.bigrams])] := O3
  refine sim_let (v := AV.agg [iv aM_.default, Sl.enc aM_.bigrams]) (O3.ld 0 rfl true 2 0) ?_
  refine sim_call2 he_laws_szModel (snapD_nr _ aM_ rfl) (snapD_int _ _) (fun c5 => ?_)
  refine sim_let2 (hand_plain (by rfl) _ _) ?_
  refine sim_let (v := bv (decide (c5 < 0))) (aBin_lss _ _) ?_
  refine sim_cond (fun c6 => ?_) (fun c6 => ?_)
  · exact sim_ret (release_plain (by rfl) _)
  · refine sim_let (v := AV.agg [iv aM_.default, Sl.enc aM_.bigrams]) (O3.ld 0 rfl true 2 0) ?_
    refine sim_call1 he_laws_toModel (snapD_nr _ aM_ rfl) (fun c7 => ?_)
    refine sim_hand1 O3 (c7.bigrams : Sl Bigram) (fun z1 => AV.agg [iv c7.default, z1]) (by intro b; simp only [mat_tup, mat_aggD, mat_agg, matLc, matLn, mat_iv, mat_bv, mat_sv, mat_bt, mat_nilS, mat_rS, List.append_nil, List.nil_append, List.length_nil, Nat.add_zero]) (by simp only [noF_tup, noF_aggD, noF_agg, noF_iv, noF_bv, noF_sv, noF_bt, noF_nilS, noF_rS, List.all_cons, List.all_nil, Bool.and_self]) (fun x9 h10 O11 => ?_)
    replace O11 : Hold B h10 [(AV.ptr o1 1 0 0, .pt 2 [iv aM_.default, Sl.enc aM_.bigrams]), (x9, obS (c7.bigrams : Sl Bigram))] := O11
    refine sim_call1 he_spec_ModelText (snapD_own h10 c7 rfl (by simp [omap, O11.snap7 (A := Bigram) (s := c7.bigrams) 1 rfl])) (fun c12 => ?_)
    refine sim_let2 (hand_plain (by rfl) _ _) ?_
    refine sim_let (v := AV.agg [iv aM_.default, Sl.enc aM_.bigrams]) (O11.ld 0 rfl true 2 0) ?_
    refine sim_call1 he_laws_toModel (snapD_nr _ aM_ rfl) (fun c13 => ?_)
    refine sim_hand1 O11 (c13.bigrams : Sl Bigram) (fun z1 => AV.agg [iv c13.default, z1]) (by intro b; simp only [mat_tup, mat_aggD, mat_agg, matLc, matLn, mat_iv, mat_bv, mat_sv, mat_bt, mat_nilS, mat_rS, List.append_nil, List.nil_append, List.length_nil, Nat.add_zero]) (by simp only [noF_tup, noF_aggD, noF_agg, noF_iv, noF_bv, noF_sv, noF_bt, noF_nilS, noF_rS, List.all_cons, List.all_nil, Bool.and_self]) (fun x15 h16 O17 => ?_)
    replace O17 : Hold B h16 [(AV.ptr o1 1 0 0, .pt 2 [iv aM_.default, Sl.enc aM_.bigrams]), (x9, obS (c7.bigrams : Sl Bigram)), (x15, obS (c13.bigrams : Sl Bigram))] := O17
    refine sim_box O17 (cs := [iv 0, nilS]) (by first | rfl | simp) (fun o18 h19 O20 => ?_)
    replace O20 : Hold B h19 [(AV.ptr o1 1 0 0, .pt 2 [iv aM_.default, Sl.enc aM_.bigrams]), (x9, obS (c7.bigrams : Sl Bigram)), (x15, obS (c13.bigrams : Sl Bigram)), (AV.ptr o18 1 0 0, .pt 2 [iv 0, nilS])] := O20
    refine sim_store O20 3 (cs' := [iv c13.default, x15]) rfl (by first | rfl | simp [(O20.one (A := Bigram) (s := c13.bigrams) 2 rfl).1, (O20.one (A := Bigram) (s := c13.bigrams) 2 rfl).2]) (by simp) (by first | rfl | simp [(O20.one (A := Bigram) (s := c13.bigrams) 2 rfl).1, (O20.one (A := Bigram) (s := c13.bigrams) 2 rfl).2]) (by first | rfl | simp [splice, (O20.one (A := Bigram) (s := c13.bigrams) 2 rfl).1, (O20.one (A := Bigram) (s := c13.bigrams) 2 rfl).2]) (fun h22 O23 => ?_)
    replace O23 : Hold B h22 [(AV.ptr o1 1 0 0, .pt 2 [iv aM_.default, Sl.enc aM_.bigrams]), (x9, obS (c7.bigrams : Sl Bigram)), (x15, obS (c13.bigrams : Sl Bigram)), (AV.ptr o18 1 0 0, .pt 2 [iv c13.default, x15])] := O23
    refine sim_let (v := AV.agg [iv c13.default, x15]) (O23.ld 3 rfl true 2 0) ?_
    refine sim_call1 he_impl_ModelText (snapD_own h22 c13 rfl (by simp [omap, O23.snap7 (A := Bigram) (s := c13.bigrams) 2 rfl])) (fun c24 => ?_)
    refine sim_let2 (hand_plain (by rfl) _ _) ?_
    refine sim_let (v := bv (!decide (c24 = c12))) (aCmp_neS _ _) ?_
    refine sim_cond (fun c25 => ?_) (fun c25 => ?_)
    · exact sim_ret (release_plain (by rfl) _)
    · refine sim_let (v := AV.agg [iv c13.default, x15]) (O23.ld 3 rfl true 2 0) ?_
      refine sim_let (v := AV.agg [iv aM_.default, Sl.enc aM_.bigrams]) (O23.ld 0 rfl true 2 0) ?_
      refine sim_callQ1 he_laws_toModel (snapD_nr _ aM_ rfl) (fun c26 => ?_)
      refine sim_hand1 O23 (c26.bigrams : Sl Bigram) (fun z1 => AV.agg [iv c26.default, z1]) (by intro b; simp only [mat_tup, mat_aggD, mat_agg, matLc, matLn, mat_iv, mat_bv, mat_sv, mat_bt, mat_nilS, mat_rS, List.append_nil, List.nil_append, List.length_nil, Nat.add_zero]) (by simp only [noF_tup, noF_aggD, noF_agg, noF_iv, noF_bv, noF_sv, noF_bt, noF_nilS, noF_rS, List.all_cons, List.all_nil, Bool.and_self]) (fun x28 h29 O30 => ?_)
      replace O30 : Hold B h29 [(AV.ptr o1 1 0 0, .pt 2 [iv aM_.default, Sl.enc aM_.bigrams]), (x9, obS (c7.bigrams : Sl Bigram)), (x15, obS (c13.bigrams : Sl Bigram)), (AV.ptr o18 1 0 0, .pt 2 [iv c13.default, x15]), (x28, obS (c26.bigrams : Sl Bigram))] := O30
      refine sim_callQ2 he_laws_eqModel (snapD_own h29 c13 rfl (by simp [omap, O30.snap7 (A := Bigram) (s := c13.bigrams) 2 rfl])) (snapD_own h29 c26 rfl (by simp [omap, O30.snap7 (A := Bigram) (s := c26.bigrams) 4 rfl])) (fun c31 => ?_)
      refine sim_let2 (hand_plain (by rfl) _ _) ?_
      refine sim_let (v := bv (!c31)) (aUn_not _) ?_
      refine sim_cond (fun c32 => ?_) (fun c32 => ?_)
      · exact sim_ret (release_plain (by rfl) _)
      · exact sim_ret (release_plain (by rfl) _)
theorem tt_laws_FnExactModelText : PureOK Tryd.prog n_laws_FnExactModelText (C1 (fun c : Bool => enc c) t_laws_FnExactModelText) := pureC1 (Econs tt_impl_ModelText (Econs tt_laws_eqModel (Econs tt_laws_szModel (Econs tt_laws_toModel (Econs tt_spec_ModelText E0))))) mixed hb_laws_FnExactModelText fun aM_ => ts_laws_FnExactModelText _ (by simp [envL]) (by simp [envL]) (by simp [envL]) (by simp [envL]) (by simp [envL]) aM_

theorem true_FnExactModelText (m : Model) (hm : Wt.big m = true) : t_laws_FnExactModelText m = some true := by
  have bm : Wt.big m.bigrams = true := hm
  have Z1 := szModel_ok (l := m) (big_len bm) (fun e he => by
    have h : (decide (e.first.size ≤ maxLen) && decide (e.second.size ≤ maxLen)) = true := big_mem bm he
    rw [Bool.and_eq_true] at h
    exact ⟨of_decide_eq_true h.1, of_decide_eq_true h.2⟩) 1048576 (by omega) (by omega)
  have neg : decide ((-1 : Int) < 0) = true := rfl
  unfold t_laws_FnExactModelText
  rcases Z1 with z1 | ⟨k1, z1⟩
  · rw [z1, obind_sm, neg, cond_true]
  rw [z1, obind_sm, decide_eq_false (by omega), cond_false]
  have lm : (m.bigrams.getD []).length ≤ 1048576 := by
    have := mem_len (wt := fun e : Bigram => e.first.size + e.second.size) m.bigrams
    unfold wtMod at k1
    omega
  have em : ∀ e ∈ m.bigrams.getD [], e.first.size ≤ 4294967296 ∧ e.second.size ≤ 4294967296 := fun e he => by
    have : e.first.size + e.second.size ≤ wtS (fun e : Bigram => e.first.size + e.second.size) m.bigrams := wt_mem (wt := fun e : Bigram => e.first.size + e.second.size) he
    unfold wtMod at k1
    omega
  have T1 := toModel_ok m (by omega)
  have Q1 := eqModel_ok ⟨m.default, some (m.bigrams.getD [])⟩ (by show (m.bigrams.getD []).length ≤ _; omega)
  have hs : smallBigs ⟨m.default, some (m.bigrams.getD [])⟩ := ⟨by show (m.bigrams.getD []).length ≤ _; omega, em⟩
  have bo := modText_both hs
  obtain ⟨v, hv⟩ : ∃ v, t_impl_ModelText ⟨m.default, some (m.bigrams.getD [])⟩ = some v := by
    unfold t_impl_ModelText
    rw [small_fitBigs hs, cond_true]
    cases modB ⟨m.default, some (m.bigrams.getD [])⟩
    · exact ⟨_, rfl⟩
    · exact ⟨_, rfl⟩
  rw [T1, obind_sm, bo, hv, obind_sm, obind_sm, hv, obind_sm, decide_eq_true rfl, Bool.not_true, cond_false, obind_sm, Q1, obind_sm, Bool.not_true, cond_false]

theorem ok_laws_FnExactModelText : PureOK Tryd.prog n_laws_FnExactModelText (G1 (fun m : Model => Wt.big m) fun _ => bv true) := lawC1 tt_laws_FnExactModelText fun m h => true_FnExactModelText m h
theorem law_FnExactModelText (m : Model) (ha : Row.fine m) : G1 (fun m : Model => Wt.big m) (fun _ => bv true) [enc m] = some (bv true) := G1_enc _ _ m (Wt.fb m ha)

theorem isC_2 {cs : List AV} (h : IsC Tryd.prog 2 cs) : ∃ x : Int, cs = Row.cells x ∧ Row.fine x := by
  obtain ⟨n, rfl, hn⟩ := IsC.intE Tryd.underlying2 h
  exact ⟨n, rfl, fine_int hn⟩
theorem isC_9 {cs : List AV} (h : IsC Tryd.prog 9 cs) : ∃ x : ByteArray, cs = Row.cells x ∧ Row.fine x := by
  obtain ⟨n, rfl, hn⟩ := IsC.strE Tryd.underlying9 h
  exact ⟨n, rfl, hn⟩
theorem isC_92 {cs : List AV} (h : IsC Tryd.prog 92 cs) : ∃ x : Bigram, cs = Row.cells x ∧ Row.fine x := by
  replace h := IsC.structE Tryd.underlying92 h
  obtain ⟨c0, r0, rfl, q0, k0⟩ := IsFs.consE h
  obtain ⟨c1, r1, rfl, q1, k1⟩ := IsFs.consE k0
  obtain ⟨c2, r2, rfl, q2, k2⟩ := IsFs.consE k1
  cases IsFs.nilE k2
  obtain ⟨v0, rfl, w0⟩ := isC_9 q0
  obtain ⟨v1, rfl, w1⟩ := isC_9 q1
  obtain ⟨v2, rfl, w2⟩ := isC_2 q2
  exact ⟨⟨v0, v1, v2⟩, rfl, w0, w1, w2⟩
theorem isC_22 {cs : List AV} (h : IsC Tryd.prog 22 cs) : ∃ x : (Sl Bigram), cs = Row.cells x ∧ Row.fine x := by
  rcases IsC.sliceE Tryd.underlying22 h with rfl | ⟨rows, rfl, h1, h2⟩
  · exact ⟨none, rfl, Sl.fineNil⟩
  · exact Sl.isC (by kernel_rfl) h1 fun row hr => isC_92 (h2 row hr)
theorem isC_24 {cs : List AV} (h : IsC Tryd.prog 24 cs) : ∃ x : Model, cs = Row.cells x ∧ Row.fine x := by
  replace h := IsC.structE Tryd.underlying24 h
  obtain ⟨c0, r0, rfl, q0, k0⟩ := IsFs.consE h
  obtain ⟨c1, r1, rfl, q1, k1⟩ := IsFs.consE k0
  cases IsFs.nilE k1
  obtain ⟨v0, rfl, w0⟩ := isC_2 q0
  obtain ⟨v1, rfl, w1⟩ := isC_22 q1
  exact ⟨⟨v0, v1⟩, rfl, w0, w1⟩
theorem own : ownKnob Tryd.prog.godebug = none := by kernel_rfl
theorem laidOut : laidOutB Tryd.prog = true := by kernel_rfl

theorem door_met (os : Os) (args : Array Value) : laidMetH Tryd.prog Rows.fnExactModelTextRow.laid ((World.doorLaid Tryd.prog 72 os).forCall (fun _ _ => 0) ⟨#[], args, []⟩).memory :=
  laidMetH_of_parts3 (fuel := 8) (laidMet_of_run' 8 (by kernel_rfl) (by kernel_rfl)) (by kernel_rfl) (by kernel_rfl)
theorem globs {W : World} (h : laidMetH Tryd.prog Rows.fnExactModelTextRow.laid W) : Glob Tryd.prog W := by
  exact glob_laid (Rows.fnExactModelTextRow.laid.getD 0 ("", .nil)) (Rows.fnExactModelTextRow.laid.getD 1 ("", .nil)) (g := 0) (t := 138) (e := 123) (n := 20) (by kernel_rfl) (by kernel_rfl) Tryd.underlying138 Tryd.underlying123 (by kernel_rfl) (by kernel_rfl) (by kernel_rfl) (by kernel_rfl) h
set_option maxRecDepth 100000 in
theorem rowHolds : Rows.FnExactModelTextSaid :=
  OpenClaim.holds_of_wide 3 Tryd.f3 rfl rfl rfl rfl rfl rfl rfl ⟨rfl, rfl, rfl, rfl, rfl⟩ rfl rfl rfl rfl rfl (by kernel_rfl) Tryd.func3 (by kernel_rfl)
    (of_decide_eq_true (by kernel_rfl)) (by unfold Func.isWrapper; rw [if_neg (by decide +kernel)]; exact ⟨rfl, rfl⟩)
    (fun os started H enc _ => law_door (C := Tryd.checked) (s := Rows.fnExactModelTextSpec) (laid := Rows.fnExactModelTextRow.laid) own started (by kernel_rfl) Tryd.func3
      (ChangeSpec.witness_shaped (enc := enc) (C := Tryd.checked) (os := os) (X := fun w _ => laidMetH Tryd.prog Rows.fnExactModelTextRow.laid w) false (World.doorLaid Tryd.prog 72 os) #[.agg #[.int .i64 0, .slice none 0 0]] 8 rfl (World.shaped_of_RefB (by kernel_rfl) (by kernel_rfl)) (by kernel_rfl) (by kernel_rfl) (by kernel_rfl) (door_met os _))
      laidOut rfl (tb := 4) rfl Tryd.underlying4 (ts := [24, 2, 22, 92, 9]) (by kernel_rfl)
      (fun ds h => by match ds, h with | [d0], _ => rfl)
      hb_laws_FnExactModelText ok_laws_FnExactModelText (by
    intro l h
    obtain ⟨a0, l0, rfl, g0, k0⟩ := h
    cases k0
    obtain ⟨c0, rfl, m0⟩ := IsV.structE Tryd.underlying24 g0
    obtain ⟨b0, rfl, w0⟩ := isC_24 m0
    exact law_FnExactModelText b0 w0) (fun W h => globs h))
theorem holds : Rows.FnExactModelTextCardSaid :=
  Claim7.holds_tied_plain_at .later [] [.data, .data, .data] true (true, "7fa4298b5785fd3a44aaacfe6035761d781ac1e09d21ed3d0a1c9dec825a721f") true
    rowHolds (fun _ h => by cases h) (by kernel_rfl) (fun _ h => by cases h) fnExactModelText_row_tie rfl ⟨rfl, rfl⟩ (by kernel_rfl) rfl
    (fun f fn hf hfn => by
      obtain rfl : f = 3 := Option.some.inj ((show Tryd.prog.funcNamed Rows.fnExactModelTextRow.func = some 3 by kernel_rfl).symm.trans hf) |>.symm
      obtain rfl : fn = Tryd.f3 := (Option.some.inj (Tryd.func3.symm.trans hfn)).symm
      exact ⟨by kernel_rfl, fun j t ht => by
        rw [Tryd.params3] at ht
        have hm : t ∈ [24] := by simpa using Array.mem_of_getElem? ht
        have hall : ([24].all fun u => !Tryd.prog.wantsStandIn u) = true := by kernel_rfl
        exact (show Tryd.prog.wantsStandIn t = false by simpa using List.all_eq_true.1 hall t hm)⟩)
    (by kernel_rfl)
#print axioms holds
end Go.Proofs.YtielmmmoldloeaaDoor
