/-
  Functions that the law FnExactReadModel reaches: their walks and contracts, part 1.
-/
import Derived.Test.YtielmmmoldloeaaDoorFnExactReadModelGen
namespace Go.Proofs.YtielmmmoldloeaaDoor
open Go Go.Eng Go.Eng.Cod
set_option maxRecDepth 100000
set_option linter.unusedVariables false
set_option linter.unusedSimpArgs false

theorem nil_ok : EnvOK Tryd.prog (envL []) := E0

def within (a b c : Int) : Bool := decide (b ≤ a) && decide (a ≤ c)

theorem ok_impl_within : PureOK Tryd.prog n_impl_within (T3 within) := pureT3 nil_ok mixed hb_impl_within fun a b c => by
  simp [e_impl_within, within]

theorem ok_spec_l00In : PureOK Tryd.prog n_spec_l00In (T3 within) := pureT3 nil_ok mixed hb_spec_l00In fun a b c => by
  simp [e_spec_l00In, within]

def validBox (b : Box) : Bool := within b.x1 0 b.x2 && within b.y1 0 b.y2 && decide (b.x2 ≤ 4095) && decide (b.y2 ≤ 4095)

theorem ok_impl_ValidBox : PureOK Tryd.prog n_impl_ValidBox (T1 validBox) :=
  pureT1 (E1 ok_impl_within) mixed hb_impl_ValidBox fun b => by
  simp [e_impl_ValidBox, envL, aBox, aLoad, cut, validBox]

theorem ok_laws_eqBigram : PureOK Tryd.prog n_laws_eqBigram (T2 fun a b : Bigram => decide (a = b)) := pureT2 E0 mixed hb_laws_eqBigram fun a b => by
  simp [e_laws_eqBigram, envL, aBox, aLoad, cut]
  obtain ⟨a0, a1, a2⟩ := a
  obtain ⟨b0, b1, b2⟩ := b
  simp

def names : List ByteArray := [⟨#[110, 111, 110, 101]⟩, ⟨#[114, 105, 103, 104, 116]⟩, ⟨#[97, 98, 111, 118, 101]⟩, ⟨#[98, 101, 108, 111, 119]⟩, ⟨#[117, 112, 112, 101, 114]⟩, ⟨#[108, 111, 119, 101, 114]⟩, ⟨#[105, 110, 115, 105, 100, 101]⟩]
@[simp] theorem names_len : names.length = 7 := rfl

def find (s : ByteArray) : List ByteArray → Nat → Int
  | [], _ => -1
  | x :: r, i => bif decide (x = s) then (i : Int) else find s r (i + 1)
def relationNamed (s : ByteArray) : Int × Int := bif decide (find s names 0 < 0) then (0, 3) else (find s names 0, 0)
theorem find_pos (s : ByteArray) : ∀ (l : List ByteArray) (i : Nat), find s l i = -1 ∨ 0 ≤ find s l i
  | [], _ => .inl rfl
  | x :: r, i => by
    unfold find
    cases decide (x = s)
    · simpa using find_pos s r (i + 1)
    · right; simp

def isLow (b : UInt8) : Bool := decide ((97 : Int) ≤ (b.toNat : Int)) && decide ((b.toNat : Int) ≤ 122)

theorem ok_impl_isLetter : PureOK Tryd.prog n_impl_isLetter (T1 isLow) := pureT1 E0 mixed hb_impl_isLetter fun b => by
  simp [e_impl_isLetter, isLow]

theorem ok_spec_l01Small : PureOK Tryd.prog n_spec_l01Small (T1 isLow) := pureT1 E0 mixed hb_spec_l01Small fun b => by
  simp [e_spec_l01Small, isLow]

def isWord (s : ByteArray) : Bool := (bl s).all isLow && (decide (1 ≤ s.size) && decide (s.size ≤ 10))

theorem ok_impl_isCost : PureOK Tryd.prog n_impl_isCost (T1 fun y => within y 0 1000000) := pureT1 (E1 ok_impl_within) mixed hb_impl_isCost fun y => by
  simp [e_impl_isCost, envL]

def isFirst (s : ByteArray) : Bool := decide (s = ⟨#[]⟩) || isWord s
def validBigram (b : Bigram) : Bool := isWord b.second && (isFirst b.first && within b.cost 0 1000000)
theorem fit_bigram {b : Bigram} (h : fit b = true) : fit b.first = true ∧ fit b.second = true := by
  rw [fit_iff, wt_Bigram] at h
  rw [fit_iff, fit_iff]
  omega

def before (a b : Bigram) : Bool := ltS a.first b.first || (decide (a.first = b.first) && ltS a.second b.second)
def beforeAt (l : List Bigram) (i j : Nat) : Bool := match l[i]?, l[j]? with
  | some a, some b => before a b
  | _, _ => false
theorem ok_spec_l18Before : PureOK Tryd.prog n_spec_l18Before (G2 (fun p q : Pt Bigram => decide (p.i < p.tab.length) && decide (q.i < q.tab.length)) fun p q => bv (match p.tab[p.i]?, q.tab[q.i]? with
    | some a, some b => before a b
    | _, _ => false)) :=
  pureG2 E0 mixed hb_spec_l18Before fun p q h => by
  obtain ⟨l, i⟩ := p
  obtain ⟨m, j⟩ := q
  simp at h
  obtain ⟨hi, hj⟩ := h
  obtain ⟨a, ha⟩ : ∃ b, l[i]'hi = b := ⟨_, rfl⟩
  obtain ⟨b, hb⟩ : ∃ b, m[j]'hj = b := ⟨_, rfl⟩
  have L := fun g n j h => load_fptr (A := Bigram) g n 3 i j l h
  have M := fun g n k h => load_fptr (A := Bigram) g n 3 j k m h
  cases w1 : ltS a.first b.first
  · simp [e_spec_l18Before, L, M, hi, hj, ha, hb, cut, before, w1]
    cases decide (a.first = b.first) <;> simp [L, M, hi, hj, ha, hb, cut]
  · simp [e_spec_l18Before, L, M, hi, hj, ha, hb, cut, before, w1]

def cmpS (a b : ByteArray) : Int := bif ltS a b then -1 else bif decide (a = b) then 0 else 1
theorem ok_cmp_isNaN_string : PureOK Tryd.prog n_cmp_isNaN_string (T1 fun _ : ByteArray => false) := pureT1 E0 mixed hb_cmp_isNaN_string fun a => by
  simp [e_cmp_isNaN_string]

theorem ok_cmp_Compare_string : PureOK Tryd.prog n_cmp_Compare_string (T2 cmpS) := pureT2 (E1 ok_cmp_isNaN_string) mixed hb_cmp_Compare_string fun a b => by
  cases w1 : ltS a b <;> by_cases w2 : a = b <;> simp [e_cmp_Compare_string, envL, cmpS, w1, w2]
  all_goals simp_all

def orI : List Int → Int
  | [] => 0
  | a :: l => bif decide (a = 0) then orI l else a

theorem lp_cmp_Or_int (env : Nat → Contract) {y0 y1 y4 y17 : AV} (q : Sl Int) (hq : fit q = true) :
    (obind (loopP hm0_cmp_Or_int xm0_cmp_Or_int (lb0_cmp_Or_int env) [y0, y1, .top, iv 0, y4, .top, Sl.enc q, iv ((q.getD []).length : Nat), iv 0, .top, .top, .top, .top, .top, .top, .top, .top, y17] []) fun r => lk0_cmp_Or_int env r.1 r.2.1 r.2.2) = some (iv (orI (q.getD [])), []) := by
  have T := lookT q (w := 1) rfl
  have L := loop_over (q.getD []) (fit_max hq) (hmk := hm0_cmp_Or_int) (xm := xm0_cmp_Or_int) (body := lb0_cmp_Or_int env) (K := fun r => lk0_cmp_Or_int env r.1 r.2.1 r.2.2) (σ := Unit) (fun _ (i : Nat) => [y0, y1, .top, iv 0, y4, .top, Sl.enc q, iv ((q.getD []).length : Nat), iv (i : Nat), .top, .top, .top, .top, .top, .top, .top, .top, y17]) (fun _ => [])
    (fun _ _ => True) (fun _ suf => some (iv (orI suf), []))
    (fun pre k suf u hl hi S => by
      by_cases hk : k = 0
      · right
        refine ⟨(), trivial, ?_, by simp [orI, hk]⟩
        rw [loopP.eq_1]
        simp [e_lb0_cmp_Or_int, T.len, T.idx, T.load, S.idx, S.lt, S.elt, cut, S.wr, hk, restr]
      · left
        rw [loopP.eq_1]
        simp [e_lb0_cmp_Or_int, T.len, T.idx, T.load, S.idx, S.lt, S.elt, cut, S.wr, hk, restr, e_lk0r_cmp_Or_int, orI])
    (fun u hi => by
      rw [loopP.eq_1]
      simp [e_lb0_cmp_Or_int, T.len, restr, e_lk0x0_cmp_Or_int, orI]) () trivial
  simpa using L
theorem ok_cmp_Or_int : PureOK Tryd.prog n_cmp_Or_int (G1 (fun q : Sl Int => fit q) fun q => iv (orI (q.getD []))) :=
  pureG1 E0 mixed hb_cmp_Or_int fun q hq => by
  have T := lookT q (w := 1) rfl
  have L := fun env {y0 y1 y4 y17} => @lp_cmp_Or_int env y0 y1 y4 y17 q hq
  simp [e_cmp_Or_int, T.len, L]

def cmpB (a b : Bigram) : Int := orI [cmpS a.first b.first, cmpS a.second b.second]
theorem cmpB_before (a b : Bigram) : decide (0 ≤ cmpB a b) = !before a b := by
  unfold cmpB before cmpS orI orI orI
  cases ltS a.first b.first <;> by_cases h : a.first = b.first <;> cases ltS a.second b.second <;> by_cases h2 : a.second = b.second <;> simp [h, h2]

theorem ok_impl_compareBigrams : PureOK Tryd.prog n_impl_compareBigrams (T2 cmpB) := pureT2 (E2 ok_cmp_Compare_string ok_cmp_Or_int) mixed hb_impl_compareBigrams fun a b => by
  have S := fun (M N : AObj) => snapD_sl (A := Int) [M, N, ⟨1, [[iv (cmpS a.first b.first)], [iv (cmpS a.second b.second)]]⟩] (o := 2) (ep := 2) (n := 2) [cmpS a.first b.first, cmpS a.second b.second] rfl rfl rfl
  have f : fit (some [cmpS a.first b.first, cmpS a.second b.second] : Sl Int) = true := rfl
  simp [e_impl_compareBigrams, envL, aBox, aLoad, cut, aBuildSlice, zrows, aFillRows, S, f, cmpB]

theorem ok_internal_bytealg_IndexByteString : PureOK Tryd.prog n_internal_bytealg_IndexByteString (T2 indexB) :=
  pure_indexByte (fn := Tryd.f131) Tryd.func131 (by kernel_rfl) (by kernel_rfl) (by kernel_rfl) (by kernel_rfl)

theorem ok_internal_stringslite_IndexByte : PureOK Tryd.prog n_internal_stringslite_IndexByte (T2 indexB) := pureT2 (E1 ok_internal_bytealg_IndexByteString) mixed hb_internal_stringslite_IndexByte fun s b => by
  simp [e_internal_stringslite_IndexByte, envL]

def byte0 (t : ByteArray) : UInt8 := (bl t).headD 0
theorem one_byte {t : ByteArray} (h : t.size = 1) : bl t = [byte0 t] := by
  have : (bl t).length = 1 := by rw [bl_len, h]
  match hb : bl t, this with
  | [b], _ => simp [byte0, hb]
theorem ok_internal_stringslite_Index : PureOK Tryd.prog n_internal_stringslite_Index (G2 (fun _ t : ByteArray => decide (t.size = 1)) fun s t => iv (indexB s (byte0 t))) :=
  pureG2 (E1 ok_internal_stringslite_IndexByte) mixed hb_internal_stringslite_Index fun s t h => by
  have h1 : t.size = 1 := of_decide_eq_true h
  have h2 : aLenK .str (sv t) = some (iv 1) := by rw [aLenK_str, h1]; rfl
  have h3 : aCmp .eql .plain (iv 1) (iv 0) = some (bv false) := rfl
  have h4 : aCmp .eql .plain (iv 1) (iv 1) = some (bv true) := rfl
  have h5 : aIndexStr (sv t) (iv 0) = some (bt (byte0 t)) := by
    rw [idx_str, h1, one_byte h1]
    rfl
  rw [e_internal_stringslite_Index]
  simp only [enc_str, h2, obind_sm, h3, guardB_false, cond_false, aCmp_eqS, obind2_sm, aPick_bv, condB_bv]
  by_cases e : t = s
  · subst e
    have e0 : indexB t (byte0 t) = 0 := by
      obtain ⟨⟨l⟩⟩ := t
      match l, h1 with
      | [b], _ => 
        show (match (List.range 1).find? (fun i => (⟨#[b]⟩ : ByteArray)[i]! == b) with | some i => (i : Int) | none => -1) = 0
        have : ((⟨#[b]⟩ : ByteArray)[0]! == b) = true := by
          have : (⟨#[b]⟩ : ByteArray)[0]! = b := rfl
          rw [this]
          simp
        simp [List.range_succ, this]
    simp only [decide_true, cond_true, obind_sm, release_iv, e0]
  · simp only [e, decide_false, cond_false, h4, obind_sm, cond_true, h5]
    simp [envL]

theorem ok_strings_Index : PureOK Tryd.prog n_strings_Index (G2 (fun _ t : ByteArray => decide (t.size = 1)) fun s t => iv (indexB s (byte0 t))) :=
  pureG2 (E1 ok_internal_stringslite_Index) mixed hb_strings_Index fun s t h => by
  simp [e_strings_Index, envL, of_decide_eq_true h]

theorem ok_strings_Contains : PureOK Tryd.prog n_strings_Contains (G2 (fun _ t : ByteArray => decide (t.size = 1)) fun s t => bv (decide (0 ≤ indexB s (byte0 t)))) :=
  pureG2 (E1 ok_strings_Index) mixed hb_strings_Contains fun s t h => by
  simp [e_strings_Contains, envL, of_decide_eq_true h]

def labelB (b : UInt8) : Bool := decide ((b.toNat : Int) = 43) || (decide ((b.toNat : Int) = 45) || (decide ((b.toNat : Int) = 42) || (decide ((b.toNat : Int) = 47) || (decide ((b.toNat : Int) = 61) || (decide ((b.toNat : Int) = 40) || (decide ((b.toNat : Int) = 41) || (decide ((b.toNat : Int) = 46) || (decide ((b.toNat : Int) = 44) ||
  (isLow b || (decide ((48 : Int) ≤ (b.toNat : Int)) && decide ((b.toNat : Int) ≤ 57)))))))))))
def labelSet : ByteArray := ⟨#[48, 49, 50, 51, 52, 53, 54, 55, 56, 57, 43, 45, 42, 47, 61, 40, 41, 46, 44]⟩
theorem label_all : ∀ n : Fin 256, (isLow (UInt8.ofNat n.val) || decide (0 ≤ indexB labelSet (UInt8.ofNat n.val))) = labelB (UInt8.ofNat n.val) := by decide +kernel
theorem label_eq (b : UInt8) : (isLow b || decide (0 ≤ indexB labelSet b)) = labelB b := by
  have := label_all ⟨b.toNat, b.toNat_lt⟩
  simpa using this
def isLabel (s : ByteArray) : Bool := decide (s.size = 1) && labelB (byte0 s)

theorem ok_impl_IsLabel : PureOK Tryd.prog n_impl_IsLabel (T1 isLabel) := pureT1 (E2 ok_impl_isLetter ok_strings_Contains) mixed hb_impl_IsLabel fun s => by
  by_cases h1 : s.size = 1
  · have h5 : aIndexStr (sv s) (iv 0) = some (bt (byte0 s)) := by
      rw [idx_str, h1, one_byte h1]
      rfl
    have hl := label_eq (byte0 s)
    unfold labelSet at hl
    cases hw : isLow (byte0 s)
    · rw [hw] at hl
      simp at hl
      simp [e_impl_IsLabel, envL, h5, h1, hw, isLabel, hl]
    · rw [hw] at hl
      simp at hl
      simp [e_impl_IsLabel, envL, h5, h1, hw, isLabel, hl]
  · have h2 : ¬ ((s.size : Nat) : Int) = 1 := by omega
    simp [e_impl_IsLabel, h2, h1, isLabel]

def okSym (s : Symbol) : Bool := isLabel s.label && validBox s.box
def validSymbols (l : List Symbol) : Bool := decide (l.length ≤ 8) && l.all okSym
theorem ok_impl_ValidSymbols_1 : PureOK Tryd.prog n_impl_ValidSymbols_1 (T1 fun s : Symbol => !okSym s) := pureT1 (E2 ok_impl_IsLabel ok_impl_ValidBox) mixed hb_impl_ValidSymbols_1 fun s => by
  simp [e_impl_ValidSymbols_1, envL, aBox, aLoad, cut, okSym]

theorem tt_strconv_FormatInt : PureOK Tryd.prog n_strconv_FormatInt (C2 (fun c : ByteArray => enc c) fmtO) :=
  pure_formatInt hb_strconv_FormatInt (by kernel_rfl) fun n h0 h1 w ht => Go.Proofs.Any.strconv_FormatInt_10 layFmt n h0 h1 w ht

/-- The digits of a number, ahead of a text. -/
def digT (k : Nat) (out : ByteArray) : ByteArray := if _h : k = 0 then out else digT (k / 10) (⟨#[(48 + k % 10).toUInt8]⟩ ++ out)
termination_by k
decreasing_by omega
def markT (k : Nat) : ByteArray := bif decide (k = 0) then ⟨#[109, 48]⟩ else ⟨#[109]⟩ ++ digT k ⟨#[]⟩
theorem size_one (b : UInt8) (out : ByteArray) : ((⟨#[b]⟩ : ByteArray) ++ out).size = 1 + out.size := by
  rw [ByteArray.size_append]
  rfl
theorem add_str (a b : ByteArray) (h : a.size + b.size ≤ 4294967296) : aBin .add (sv a) (sv b) = some (sv (a ++ b)) := by
  have h0 : aBin .add (sv a) (sv b) = (match (if ((a.size + b.size : Nat) : Int) ≤ 9223372036854775807 then some (Value.string (a ++ b)) else none) with | some v => some (AV.sc v) | none => none) := rfl
  rw [h0, if_pos (by omega)]
  rfl
theorem digT_size : ∀ (k : Nat) (out : ByteArray), (digT k out).size ≤ k + out.size := by
  intro k out
  induction k, out using digT.induct with
  | case1 out => rw [digT]; simp
  | case2 k out h ih =>
    rw [digT, dif_neg h]
    rw [size_one] at ih
    omega

def isDig (b : UInt8) : Bool := decide ((48 : Int) ≤ (b.toNat : Int)) && decide ((b.toNat : Int) ≤ 57)
def signSet : ByteArray := ⟨#[43, 45, 42, 47, 94, 40, 41, 82]⟩
def isSign (b : UInt8) : Bool := (bl signSet).any (fun c => decide (c = b)) || isLow b
theorem sign_all : ∀ n : Fin 256, (!isLow (UInt8.ofNat n.val) && decide (indexB signSet (UInt8.ofNat n.val) < 0)) = !isSign (UInt8.ofNat n.val) := by decide +kernel
theorem sign_eq (b : UInt8) : (!isLow b && decide (indexB signSet b < 0)) = !isSign b := by
  have := sign_all ⟨b.toNat, b.toNat_lt⟩
  simpa using this
/-- Behind the digits. -/
def dEnd (l : List UInt8) : Nat → Nat → Nat
  | 0, e => e
  | f + 1, e => match l[e]? with
    | some b => bif isDig b then dEnd l f (e + 1) else e
    | none => e
theorem dEnd_le (l : List UInt8) : ∀ (f e : Nat), e ≤ l.length → e ≤ dEnd l f e ∧ dEnd l f e ≤ l.length
  | 0, e, h => ⟨Nat.le_refl _, h⟩
  | f + 1, e, h => by
    unfold dEnd
    by_cases he : e < l.length
    · rw [List.getElem?_eq_getElem he]
      simp only
      cases isDig l[e]
      · exact ⟨Nat.le_refl _, h⟩
      · have := dEnd_le l f (e + 1) (by omega)
        exact ⟨by simp only [cond_true]; omega, by simp only [cond_true]; omega⟩
    · rw [List.getElem?_eq_none (by omega)]
      exact ⟨Nat.le_refl _, h⟩
/-- The end of the token at `k`. -/
def tEnd (s : ByteArray) (k : Nat) : Nat := match (bl s)[k]? with
  | some b => bif isDig b then dEnd (bl s) s.size (k + 1) else k + 1
  | none => k + 1
def tOk (s : ByteArray) (k : Nat) : Bool := match (bl s)[k]? with
  | some b => isDig b || isSign b
  | none => true
def toks (s : ByteArray) : Nat → Nat → List ByteArray → Option (List ByteArray)
  | 0, _, acc => some acc
  | f + 1, k, acc => bif decide (k < s.size) then (bif tOk s k then toks s f (tEnd s k) (acc ++ [s.extract k (tEnd s k)]) else none) else some acc
theorem tEnd_le {s : ByteArray} {k : Nat} (h : k < s.size) : k < tEnd s k ∧ tEnd s k ≤ s.size := by
  have h' : k < (bl s).length := by rw [bl_len]; exact h
  unfold tEnd
  rw [List.getElem?_eq_getElem h']
  simp only
  cases isDig (bl s)[k]
  · simp only [cond_false]; omega
  · have := dEnd_le (bl s) s.size (k + 1) (by omega)
    rw [bl_len] at this
    simp only [cond_true]; omega
theorem slice_str (s : ByteArray) {k e : Nat} (h1 : k ≤ e) (h2 : e ≤ s.size) : aSliceStr (sv s) (some (iv (k : Int))) (some (iv (e : Int))) = some (sv (s.extract k e)) := by
  have i1 : idx (iv (e : Int)) (s.size + 1) = some e := idx_lt (by omega)
  have i2 : idx (iv (k : Int)) (e + 1) = some k := idx_lt (by omega)
  show (match bound (some (iv (e : Int))) s.size s.size with | some h => (match bound (some (iv (k : Int))) 0 h with | some l => some (AV.sc (.string (s.extract l h))) | none => none) | none => none) = _
  simp only [bound, i1, i2]
  rfl
/-- What has been gathered. -/
def Got (h : Heap) (x : AV) (l : List ByteArray) : Prop := ∃ o, x = .sl o l.length 0 l.length ∧ h[o]? = some ⟨1, l.map Row.cells⟩
def GotN (h : Heap) (x : AV) (l : List ByteArray) : Prop := (x = nilS ∧ l = []) ∨ (l ≠ [] ∧ Got h x l)
theorem src_one (h : Heap) (t : ByteArray) : aSrc false 1 (.sl h.length 1 0 1) (h ++ [⟨1, [[sv t]]⟩]) = some [[sv t]] := by
  simp [aSrc]
theorem got_app {h : Heap} {x : AV} {l : List ByteArray} (g : Got h x l) (hl : l.length ≤ 1000) (t : ByteArray) : ∃ x' h', aAppend false 1 16 x (.sl h.length 1 0 1) (h ++ [⟨1, [[sv t]]⟩]) = some (x', h') ∧ Got h' x' (l ++ [t]) := by
  obtain ⟨o, rfl, ho⟩ := g
  have holt := (List.getElem?_eq_some_iff.1 ho).1
  have ho' : (h ++ [⟨1, [[sv t]]⟩])[o]? = some ⟨1, l.map Row.cells⟩ := by rw [List.getElem?_append_left holt]; exact ho
  have hm : maxBytes = 140737488355328 := rfl
  refine ⟨.sl o (l.length + 1) 0 (l.length + 1), (h ++ [(⟨1, [[sv t]]⟩ : AObj)]).set o (⟨1, (l ++ [t]).map Row.cells⟩ : AObj), ?_, o, by simp, ?_⟩
  · unfold aAppend
    rw [src_one]
    simp only [ho', List.length_map, List.length_cons, List.length_nil, Nat.zero_add]
    rw [if_pos ⟨trivial, trivial, trivial, by omega, by omega, Nat.le_refl _⟩]
    congr 2
    · congr 1
      omega
    · congr 1
      have e1 : List.take l.length (l.map (Row.cells (A := ByteArray))) = l.map Row.cells := List.take_of_length_le (by simp)
      have e2 : List.drop (l.length + 1) (l.map (Row.cells (A := ByteArray))) = [] := List.drop_eq_nil_of_le (by simp)
      simp [e1, e2]
  · rw [List.getElem?_set_self (by simp; omega)]
theorem gotN_app {h : Heap} {x : AV} {l : List ByteArray} (g : GotN h x l) (hl : l.length ≤ 1000) (t : ByteArray) : ∃ x' h', aAppend false 1 16 x (.sl h.length 1 0 1) (h ++ [⟨1, [[sv t]]⟩]) = some (x', h') ∧ GotN h' x' (l ++ [t]) := by
  rcases g with ⟨rfl, rfl⟩ | ⟨hne, g⟩
  · refine ⟨.sl (h ++ [(⟨1, [[sv t]]⟩ : AObj)]).length 1 0 1, h ++ [⟨1, [[sv t]]⟩] ++ [⟨1, [[sv t]]⟩], ?_, .inr ⟨by simp, (h ++ [(⟨1, [[sv t]]⟩ : AObj)]).length, rfl, by simp⟩⟩
    have hm : maxBytes = 140737488355328 := rfl
    unfold aAppend
    rw [src_one]
    simp [nilS, hm]
  · obtain ⟨x', h', e, g'⟩ := got_app g hl t
    exact ⟨x', h', e, .inr ⟨by simp, g'⟩⟩
theorem one_tok (t : ByteArray) (h : Heap) : aBuildSlice [sv ⟨#[]⟩] 1 [(0, sv t)] h = some (.sl h.length 1 0 1, h ++ [⟨1, [[sv t]]⟩]) := rfl
theorem got_rel {h : Heap} {x : AV} {l : List ByteArray} (g : Got h x l) (c : AV) (hc : isSc c = true) : release h depth (.tup [x, c]) = some (.tup [nwl l, c]) := by
  obtain ⟨o, rfl, ho⟩ := g
  have R : Rels h 7 (.sl o l.length 0 l.length) (nwl l) o (o + 1) := by
    refine RelsR.sl (hi := o + 1) ho (by simp) (Nat.le_refl _) ?_
    have e1 : List.take l.length (l.map (Row.cells (A := ByteArray))) = l.map Row.cells := List.take_of_length_le (by simp)
    rw [e1]
    exact ⟨Nat.le_refl _, rel_rows h 6 l, by rw [ids_rows]; exact List.nodup_nil, by rw [ids_rows]; intro x hx; cases hx⟩
  exact (RelsL.tup (RelsL.cons R (RelsL.cons (Rels.sc (o + 1) hc) (RelsL.nil _)))).release
def nwo (l : List ByteArray) : AV := match l with
  | [] => nilS
  | _ => nwl l
theorem gotN_rel {h : Heap} {x : AV} {l : List ByteArray} (g : GotN h x l) (c : AV) (hc : isSc c = true) : release h depth (.tup [x, c]) = some (.tup [nwo l, c]) := by
  rcases g with ⟨rfl, rfl⟩ | ⟨hne, g⟩
  · exact (RelsL.tup (RelsL.cons (Rels.sc 0 rfl) (RelsL.cons (Rels.sc 0 hc) (RelsL.nil _)))).release
  · rw [got_rel g c hc]
    cases l with
    | nil => exact absurd rfl hne
    | cons a l => rfl

theorem ok_spec_l01Digit : PureOK Tryd.prog n_spec_l01Digit (T1 isDig) := pureT1 E0 mixed hb_spec_l01Digit fun b => by
  simp [e_spec_l01Digit, isDig]

/-- The row that a mark leaves: numbers that go up by one, or their texts. -/
def mrow : List Bool → Nat → List AV
  | [], _ => []
  | b :: ks, k => (bif b then sv (markT k) else iv (k : Nat)) :: mrow ks (k + 1)
def mrows (ks : List Bool) : Nat → Nat → List (List AV)
  | _, 0 => []
  | k, m + 1 => mrow ks k :: mrows ks (k + ks.length) m
theorem set_same {h : Heap} {o : Nat} {x : AObj} (ho : h[o]? = some x) : h.set o x = h := by
  obtain ⟨hlt, e⟩ := List.getElem?_eq_some_iff.1 ho
  rw [← e]
  exact List.set_getElem_self hlt
theorem mark_addr {h : Heap} {o n w i : Nat} {P S : List (List AV)} {r : List AV} (ho : h[o]? = some ⟨w, P ++ r :: S⟩) (hi : i = P.length) (hn : P.length + (S.length + 1) = n) : aIndexAddr w (.sl o n 0 n) (iv (i : Nat)) h = some (.ptr o n i 0) := by
  have i1 : idx (iv (i : Int)) n = some i := idx_lt (by omega)
  have hl : (P ++ r :: S).length = n := by simp; omega
  simp only [aIndexAddr, ho, hl, i1, and_self, if_true, Nat.zero_add]
theorem mark_store {h : Heap} {o n w i j : Nat} {P S : List (List AV)} {r : List AV} {v : AV} (ho : h[o]? = some ⟨w, P ++ r :: S⟩) (hi : i = P.length) (hn : P.length + (S.length + 1) = n) (hv : v.cells = [v]) (hf : v.flat = true) (hj : j < r.length) : aStore 1 (.ptr o n i j) v h = some (h.set o ⟨w, P ++ r.set j v :: S⟩) := by
  have hl : (P ++ r :: S).length = n := by simp; omega
  have hg : (P ++ r :: S)[i]? = some r := by simp [hi]
  simp only [aStore, ho, hl, if_true, hg]
  rw [if_pos ⟨by rw [hv]; rfl, by omega, by rw [hv]; simp [hf]⟩]
  congr 3
  rw [hi, hv]
  have hs : splice r j [v] = r.set j v := by
    unfold splice
    simp only [List.length_cons, List.length_nil, Nat.zero_add]
    exact (List.set_eq_take_append_cons_drop (l := r) (i := j) (a := v)).symm ▸ (by simp [hj])
  rw [hs]
  simp

theorem lp2_laws_markText (env : Nat → Contract) {y1 y2 y4 y5 y18 y19 : AV} : ∀ (k : Nat) (out : ByteArray) (h : Heap), k ≤ 8589934592 → k + out.size ≤ 4000000000 →
    ((obind (loopP hm0_laws_markText xm0_laws_markText (lb0_laws_markText env) [iv (k : Nat), y1, y2, sv out, y4, y5, .top, .top, .top, .top, .top, .top, .top, .top, .top, .top, .top, .top, y18, y19] h) fun r => lk0_laws_markText env r.1 r.2.1 r.2.2).map Prod.fst) = some (sv (⟨#[109]⟩ ++ digT k out)) := by
  intro k out
  induction k, out using digT.induct with
  | case1 out =>
    intro h h1 h2
    rw [loopP.eq_1, digT]
    have hs : (⟨#[109]⟩ : ByteArray).size = 1 := rfl
    have ha := add_str ⟨#[109]⟩ out (by omega)
    simp [e_lb0_laws_markText, restr, e_lk0x0_laws_markText, ha]
  | case2 k out hk ih =>
    intro h h1 h2
    have ih' := fun h => ih h (by omega) (by rw [size_one]; omega)
    have p : (0 : Int) < (k : Int) := by omega
    have a1 : (k : Int).tmod 10 = ((k % 10 : Nat) : Int) := by
      have := Int.ofNat_tmod k 10
      exact this.symm
    have a2 : wr (48 + ((k % 10 : Nat) : Int)) = ((48 + k % 10 : Nat) : Int) := by rw [wr_id (by omega) (by omega)]; omega
    have a3 : aConvInt .u8 (iv ((48 + k % 10 : Nat) : Int)) = some (bt (48 + k % 10).toUInt8) := by
      have h0 : aConvInt .u8 (iv ((48 + k % 10 : Nat) : Int)) = some (.sc (.int .u8 (IntKind.u8.wrap ((48 + k % 10 : Nat) : Int)))) := rfl
      rw [h0]
      unfold bt
      congr 3
    have a4 : (k : Int).tdiv 10 = ((k / 10 : Nat) : Int) := (Int.ofNat_tdiv k 10).symm
    have a5 : wr ((k / 10 : Nat) : Int) = ((k / 10 : Nat) : Int) := wr_id (by omega) (by omega)
    have a6 : ∀ b : UInt8, ∀ h : Heap, aBuildSlice [.sc (.int .u8 0)] 1 [(0, bt b)] h = some (.sl h.length 1 0 1, h ++ [⟨1, [[bt b]]⟩]) := fun b h => rfl
    have a7 : ∀ b : UInt8, ∀ h : Heap, aConvStr (.sl h.length 1 0 1) (h ++ [⟨1, [[bt b]]⟩]) = some (sv ⟨#[b]⟩) := by
      intro b h
      have h0 : aSrc false 1 (.sl h.length 1 0 1) (h ++ [⟨1, [[bt b]]⟩]) = some [[bt b]] := by
        simp [aSrc]
      unfold aConvStr
      rw [h0]
      have h1 : bytesOf [[bt b]] = some [b] := by
        show (match bytesOf [] with | some l => some (((b.toNat : Int)).toNat.toUInt8 :: l) | none => none) = _
        simp [bytesOf]
      show (match bytesOf [[bt b]] with | some l => some (AV.sc (Value.string ⟨l.toArray⟩)) | none => none) = _
      rw [h1]
      rfl
    have a8 := add_str ⟨#[(48 + k % 10).toUInt8]⟩ out (by have : (⟨#[(48 + k % 10).toUInt8]⟩ : ByteArray).size = 1 := rfl; omega)
    rw [loopP.eq_1, digT, dif_neg hk]
    simp only [e_lb0_laws_markText, aBin_gtr, obind_sm, condB_bv, p, decide_true, cond_true, aBin_rem _ 10 (by decide), a1, aBin_add, a2, a3, a6, obind2_sm, a7, a8, aBin_quo _ 10 (by decide), a4, a5, restr, cond_false]
    exact ih' _
theorem okB_laws_markText : PureOK Tryd.prog n_laws_markText (G1 (fun k : Int => decide (0 ≤ k) && decide (k ≤ 100000000)) fun k => sv (markT k.toNat)) :=
  pureG1 E0 mixed hb_laws_markText fun k h => by
  simp at h
  obtain ⟨m, rfl⟩ := Int.eq_ofNat_of_zero_le h.1
  refine plain_of rfl ?_
  by_cases hz : m = 0
  · subst hz
    simp [e_laws_markText, markT]
  · have hz' : ¬ ((m : Nat) : Int) ≤ 0 := by omega
    have hs : (⟨#[]⟩ : ByteArray).size = 0 := rfl
    have L := fun env {y1 y2 y4 y5 y18 y19} h => @lp2_laws_markText env y1 y2 y4 y5 y18 y19 m ⟨#[]⟩ h (by omega) (by omega)
    rw [e_laws_markText]
    simp only [enc_int, aBin_leq, obind_sm, condB_bv, hz', decide_false, cond_false, L, Int.toNat_natCast, markT, hz]

theorem cmp_eqY (a b : UInt8) : aCmp .eql .plain (bt a) (bt b) = some (bv (decide (a = b))) := by
  have h : aCmp .eql .plain (bt a) (bt b) = some (bv (((a.toNat : Int)) == ((b.toNat : Int)))) := rfl
  rw [h]
  congr 2
  by_cases c : a = b
  · subst c
    simp
  · rw [decide_eq_false c]
    have : ¬ ((a.toNat : Int) = (b.toNat : Int)) := fun e => c (UInt8.toNat_inj.1 (by omega))
    simpa using this
theorem cmp_neY (a b : UInt8) : aCmp .neq .plain (bt a) (bt b) = some (bv (!decide (a = b))) := by
  have h : aCmp .neq .plain (bt a) (bt b) = some (bv (!(((a.toNat : Int)) == ((b.toNat : Int))))) := rfl
  rw [h]
  congr 2
  by_cases c : a = b
  · subst c
    simp
  · rw [decide_eq_false c]
    have : ¬ ((a.toNat : Int) = (b.toNat : Int)) := fun e => c (UInt8.toNat_inj.1 (by omega))
    simpa using this

def s0_spec_IsWord (s_ : ByteArray) : Int → Option (Sum Int (Sum Unit Bool)) := fun w3 =>
  bif decide (w3 < (s_.size : Int)) then
    obind (getB s_ w3) fun b14 =>
    obind (some (isLow b14)) fun c15 =>
    bif !c15 then
      some (.inr (.inr false))
    else
      some (.inl (wr (w3 + 1)))
  else
    some (.inr (.inl ()))
def t_spec_IsWord (s_ : ByteArray) : Option Bool :=
  obind (loopT (s0_spec_IsWord s_) 0) fun qq21 => match qq21 with
  | (.inl _) =>
      obind (some (within (s_.size : Int) 1 10)) fun c8 =>
      some c8
  | (.inr q11) =>
      some q11

theorem tl0_spec_IsWord (env : Nat → Contract) {B : Base} (he_spec_l00In : env n_spec_l00In = .pure (T3 within)) (he_spec_l01Small : env n_spec_l01Small = .pure (T1 isLow)) (s_ : ByteArray)  {st : Int} {tm : TM} {h : Heap} (R : (fun (st : Int) tm h1 => match st with | w3 => tm = [sv s_, und, AV.top, iv w3, AV.top, AV.top, AV.top, AV.top, AV.top, AV.top, AV.top, AV.top, AV.top, AV.top, AV.top, und, und, und] ∧ Hold B h1 []) st tm h) : Sim (loopP hm0_spec_IsWord xm0_spec_IsWord (lb0_spec_IsWord env) tm h) (loopT (s0_spec_IsWord s_) st) (fun (q : Sum Unit Bool) (r : Res) => match q with | .inl _ => ∃ (q7 : Int) (z6 : AV) (h4 : Heap), r = (.exit 0, [sv s_, und, z6, iv q7, AV.top, AV.top, AV.top, AV.top, AV.top, AV.top, AV.top, AV.top, AV.top, AV.top, AV.top, und, und, und], h4) ∧ Hold B h4 [] | .inr q11 => ∃ (q12 : Int) (h9 : Heap), r = (.ret, [sv s_, und, bv q11, iv q12, AV.top, AV.top, AV.top, AV.top, AV.top, AV.top, AV.top, AV.top, AV.top, AV.top, AV.top, und, und, und], h9) ∧ Hold B h9 []) := by
  refine loop_sim (Rel := fun (st : Int) tm h1 => match st with | w3 => tm = [sv s_, und, AV.top, iv w3, AV.top, AV.top, AV.top, AV.top, AV.top, AV.top, AV.top, AV.top, AV.top, AV.top, AV.top, und, und, und] ∧ Hold B h1 []) (fun w3 tm h1 R => ?_) R
  obtain ⟨rfl, O2⟩ := R
  rw [e_lb0_spec_IsWord]
  unfold s0_spec_IsWord
  dsimp only
  refine sim_let (v := iv (s_.size : Int)) rfl ?_
  refine sim_let (v := bv (decide (w3 < (s_.size : Int)))) (aBin_lss _ _) ?_
  refine sim_cond (fun c13 => ?_) (fun c13 => ?_)
  · refine sim_getB (fun b14 => ?_)
    refine sim_callV1 (t := isLow) he_spec_l01Small (snapD_byte _ b14) (fun c15 => ?_)
    refine sim_let (v := bv (!c15)) (aUn_not _) ?_
    refine sim_cond (fun c16 => ?_) (fun c16 => ?_)
    · exact sim_ret ⟨nofun, _, _, rfl, O2⟩
    · refine sim_let (v := iv (wr (w3 + 1))) (aBin_add _ _) ?_
      exact sim_ret ⟨rfl, rfl, O2⟩
  · exact sim_ret ⟨nofun, _, _, _, rfl, O2⟩
theorem ts_spec_IsWord (env : Nat → Contract) (he_spec_l00In : env n_spec_l00In = .pure (T3 within)) (he_spec_l01Small : env n_spec_l01Small = .pure (T1 isLow)) (s_ : ByteArray) : Sim (denFn Tryd.prog env n_spec_IsWord [sv s_] []) (t_spec_IsWord s_) fun c p => release p.2 depth p.1 = some ((fun c : Bool => enc c) c) := by
  have O := Hold.nil []
  generalize hB : (⟨[], []⟩ : Base) = B at O
  clear hB
  rw [e_spec_IsWord]
  unfold t_spec_IsWord
  refine sim_bind ((tl0_spec_IsWord env he_spec_l00In he_spec_l01Small s_) ⟨rfl, O⟩) (fun qq21 r hq => ?_)
  rcases qq21 with _ | q11
  · obtain ⟨q7, z6, h4, rfl, O5⟩ := hq
    rw [e_lk0x0_spec_IsWord]
    refine sim_let (v := iv (s_.size : Int)) rfl ?_
    refine sim_callV3 (t := within) he_spec_l00In (snapD_int _ _) (snapD_int _ _) (snapD_int _ _) (fun c8 => ?_)
    exact sim_ret (release_plain (by rfl) _)
  · obtain ⟨q12, h9, rfl, O10⟩ := hq
    rw [e_lk0r_spec_IsWord]
    exact sim_ret (release_plain (by rfl) _)
theorem tt_spec_IsWord : PureOK Tryd.prog n_spec_IsWord (C1 (fun c : Bool => enc c) t_spec_IsWord) := pureC1 (Econs ok_spec_l00In (Econs ok_spec_l01Small E0)) mixed hb_spec_IsWord fun s_ => ts_spec_IsWord _ (by simp [envL]) (by simp [envL]) s_

def t_spec_l18First (s_ : ByteArray) : Option Bool :=
  obind (bif decide (s_ = (⟨#[]⟩ : ByteArray)) then some false else (obind (t_spec_IsWord s_) fun c2 => some c2)) fun c3 =>
  some (bif decide (s_ = (⟨#[]⟩ : ByteArray)) then true else c3)

theorem ts_spec_l18First (env : Nat → Contract) (he_spec_IsWord : env n_spec_IsWord = .pure (C1 (fun c : Bool => enc c) t_spec_IsWord)) (s_ : ByteArray) : Sim (denFn Tryd.prog env n_spec_l18First [sv s_] []) (t_spec_l18First s_) fun c p => release p.2 depth p.1 = some ((fun c : Bool => enc c) c) := by
  have O := Hold.nil []
  generalize hB : (⟨[], []⟩ : Base) = B at O
  clear hB
  rw [e_spec_l18First]
  unfold t_spec_l18First
  refine sim_let (v := bv (decide (s_ = (⟨#[]⟩ : ByteArray)))) (aCmp_eqS _ _) ?_
  refine sim_guardF (e := bv) (fun hb1 => ?_) (fun c3 => ?_)
  · refine sim_call1 he_spec_IsWord (snapD_str _ _) (fun c2 => ?_)
    refine sim_let2 (hand_plain (by rfl) _ _) ?_
    exact sim_ret rfl
  · refine sim_let (v := bv (bif decide (s_ = (⟨#[]⟩ : ByteArray)) then true else c3)) (pick_b' _ _ _) ?_
    exact sim_ret (release_plain (by rfl) _)
theorem tt_spec_l18First : PureOK Tryd.prog n_spec_l18First (C1 (fun c : Bool => enc c) t_spec_l18First) := pureC1 (Econs tt_spec_IsWord E0) mixed hb_spec_l18First fun s_ => ts_spec_l18First _ (by simp [envL]) s_

def t_spec_l18Bigram (b_ : Bigram) : Option Bool :=
  obind (t_spec_l18First b_.first) fun c1 =>
  obind (bif c1 then (obind (t_spec_IsWord b_.second) fun c3 => some c3) else some false) fun c4 =>
  obind (bif (bif c1 then c4 else false) then (obind (some (within b_.cost 0 1000000)) fun c6 => some c6) else some false) fun c7 =>
  some (bif (bif c1 then c4 else false) then c7 else false)
def tp_spec_l18Bigram (b_p : Pt Bigram) : Option Bool := obind b_p.get fun b_ => t_spec_l18Bigram b_

theorem ts_spec_l18Bigram (env : Nat → Contract) (he_spec_IsWord : env n_spec_IsWord = .pure (C1 (fun c : Bool => enc c) t_spec_IsWord)) (he_spec_l00In : env n_spec_l00In = .pure (T3 within)) (he_spec_l18First : env n_spec_l18First = .pure (C1 (fun c : Bool => enc c) t_spec_l18First)) (b_ : Bigram) {b_p : Pt Bigram} (hp_b_ : b_p.get = some b_) : Sim (denFn Tryd.prog env n_spec_l18Bigram [AV.fptr (Row.w Bigram) (b_p.tab.map Row.cells) b_p.i 0] []) (t_spec_l18Bigram b_) fun c p => release p.2 depth p.1 = some ((fun c : Bool => enc c) c) := by
  have O := Hold.nil []
  generalize hB : (⟨[], []⟩ : Base) = B at O
  clear hB
  rw [e_spec_l18Bigram]
  unfold t_spec_l18Bigram
  refine sim_let (v := AV.fptr (Row.w Bigram) (b_p.tab.map Row.cells) b_p.i 0) rfl ?_
  refine sim_let (v := AV.fptr (Row.w Bigram) (b_p.tab.map Row.cells) b_p.i 0) rfl ?_
  refine sim_let (v := sv b_.first) (ld_pt hp_b_ false 1 0) ?_
  refine sim_call1 he_spec_l18First (snapD_str _ _) (fun c1 => ?_)
  refine sim_let2 (hand_plain (by rfl) _ _) ?_
  refine sim_guardT (e := bv) (fun hb2 => ?_) (fun c4 => ?_)
  · refine sim_let (v := AV.fptr (Row.w Bigram) (b_p.tab.map Row.cells) b_p.i 0) rfl ?_
    refine sim_let (v := AV.fptr (Row.w Bigram) (b_p.tab.map Row.cells) b_p.i 1) rfl ?_
    refine sim_let (v := sv b_.second) (ld_pt hp_b_ false 1 1) ?_
    refine sim_call1 he_spec_IsWord (snapD_str _ _) (fun c3 => ?_)
    refine sim_let2 (hand_plain (by rfl) _ _) ?_
    exact sim_ret rfl
  · refine sim_let (v := bv (bif c1 then c4 else false)) (pick_b _ _ _) ?_
    refine sim_guardT (e := bv) (fun hb5 => ?_) (fun c7 => ?_)
    · refine sim_let (v := AV.fptr (Row.w Bigram) (b_p.tab.map Row.cells) b_p.i 0) rfl ?_
      refine sim_let (v := AV.fptr (Row.w Bigram) (b_p.tab.map Row.cells) b_p.i 2) rfl ?_
      refine sim_let (v := iv b_.cost) (ld_pt hp_b_ false 1 2) ?_
      refine sim_callV3 (t := within) he_spec_l00In (snapD_int _ _) (snapD_int _ _) (snapD_int _ _) (fun c6 => ?_)
      exact sim_ret rfl
    · refine sim_let (v := bv (bif (bif c1 then c4 else false) then c7 else false)) (pick_b _ _ _) ?_
      exact sim_ret (release_plain (by rfl) _)
theorem tt_spec_l18Bigram : PureOK Tryd.prog n_spec_l18Bigram (C1 (fun c : Bool => enc c) tp_spec_l18Bigram) := pureC1 (Econs tt_spec_IsWord (Econs ok_spec_l00In (Econs tt_spec_l18First E0))) mixed hb_spec_l18Bigram fun b_p => sim_getP fun b_ hp_b_ => ts_spec_l18Bigram _ (by simp [envL]) (by simp [envL]) (by simp [envL]) b_ hp_b_

def t_spec_l18Before (a_ : Bigram) (b_ : Bigram) : Option Bool :=
  obind (bif ltS a_.first b_.first then some false else (some (decide (a_.first = b_.first)))) fun c2 =>
  obind (bif (!(ltS a_.first b_.first) && c2) then (some (ltS a_.second b_.second)) else some false) fun c13 =>
  obind (bif ltS a_.first b_.first then some false else (some (bif c2 then c13 else false))) fun c23 =>
  some (bif ltS a_.first b_.first then true else c23)
def tp_spec_l18Before (a_p : Pt Bigram) (b_p : Pt Bigram) : Option Bool := obind a_p.get fun a_ => obind b_p.get fun b_ => t_spec_l18Before a_ b_

theorem ts_spec_l18Before (env : Nat → Contract)  (a_ : Bigram) (b_ : Bigram) {a_p : Pt Bigram} (hp_a_ : a_p.get = some a_) {b_p : Pt Bigram} (hp_b_ : b_p.get = some b_) : Sim (denFn Tryd.prog env n_spec_l18Before [AV.fptr (Row.w Bigram) (a_p.tab.map Row.cells) a_p.i 0, AV.fptr (Row.w Bigram) (b_p.tab.map Row.cells) b_p.i 0] []) (t_spec_l18Before a_ b_) fun c p => release p.2 depth p.1 = some ((fun c : Bool => enc c) c) := by
  have O := Hold.nil []
  generalize hB : (⟨[], []⟩ : Base) = B at O
  clear hB
  rw [e_spec_l18Before]
  unfold t_spec_l18Before
  refine sim_let (v := AV.fptr (Row.w Bigram) (a_p.tab.map Row.cells) a_p.i 0) rfl ?_
  refine sim_let (v := AV.fptr (Row.w Bigram) (a_p.tab.map Row.cells) a_p.i 0) rfl ?_
  refine sim_let (v := sv a_.first) (ld_pt hp_a_ false 1 0) ?_
  refine sim_let (v := AV.fptr (Row.w Bigram) (b_p.tab.map Row.cells) b_p.i 0) rfl ?_
  refine sim_let (v := AV.fptr (Row.w Bigram) (b_p.tab.map Row.cells) b_p.i 0) rfl ?_
  refine sim_let (v := sv b_.first) (ld_pt hp_b_ false 1 0) ?_
  refine sim_let (v := bv (ltS a_.first b_.first)) (str_lss _ _) ?_
  refine sim_g10F (e := bv) (fun hb1 => ?_) (fun y3 y4 y5 y6 y7 y8 y9 y10 y11 c2 => ?_)
  · refine sim_o0 ?_
    refine sim_o1 ?_
    refine sim_let (v := AV.fptr (Row.w Bigram) (a_p.tab.map Row.cells) a_p.i 0) rfl ?_
    refine sim_o0 ?_
    refine sim_o1 ?_
    refine sim_let (v := AV.fptr (Row.w Bigram) (a_p.tab.map Row.cells) a_p.i 0) rfl ?_
    refine sim_o0 ?_
    refine sim_o1 ?_
    refine sim_let (v := sv a_.first) (ld_pt hp_a_ false 1 0) ?_
    refine sim_o0 ?_
    refine sim_o0 ?_
    refine sim_o1 ?_
    refine sim_let (v := AV.fptr (Row.w Bigram) (b_p.tab.map Row.cells) b_p.i 0) rfl ?_
    refine sim_o0 ?_
    refine sim_o1 ?_
    refine sim_let (v := AV.fptr (Row.w Bigram) (b_p.tab.map Row.cells) b_p.i 0) rfl ?_
    refine sim_o0 ?_
    refine sim_o1 ?_
    refine sim_let (v := sv b_.first) (ld_pt hp_b_ false 1 0) ?_
    refine sim_o0 ?_
    refine sim_o1 ?_
    refine sim_let (v := bv (decide (a_.first = b_.first))) (aCmp_eqS _ _) ?_
    refine sim_o0 ?_
    exact sim_ret rfl
  · simp only [gv_FT]
    refine sim_g9T (e := bv) (fun hb12 => ?_) (fun y14 y15 y16 y17 y18 y19 y20 y21 c13 => ?_)
    · refine sim_o0 ?_
      refine sim_o1 ?_
      refine sim_let (v := AV.fptr (Row.w Bigram) (a_p.tab.map Row.cells) a_p.i 0) rfl ?_
      refine sim_o0 ?_
      refine sim_o1 ?_
      refine sim_let (v := AV.fptr (Row.w Bigram) (a_p.tab.map Row.cells) a_p.i 1) rfl ?_
      refine sim_o0 ?_
      refine sim_o1 ?_
      refine sim_let (v := sv a_.second) (ld_pt hp_a_ false 1 1) ?_
      refine sim_o0 ?_
      refine sim_o0 ?_
      refine sim_o1 ?_
      refine sim_let (v := AV.fptr (Row.w Bigram) (b_p.tab.map Row.cells) b_p.i 0) rfl ?_
      refine sim_o0 ?_
      refine sim_o1 ?_
      refine sim_let (v := AV.fptr (Row.w Bigram) (b_p.tab.map Row.cells) b_p.i 1) rfl ?_
      refine sim_o0 ?_
      refine sim_o1 ?_
      refine sim_let (v := sv b_.second) (ld_pt hp_b_ false 1 1) ?_
      refine sim_o0 ?_
      refine sim_let (v := bv (ltS a_.second b_.second)) (str_lss _ _) ?_
      exact sim_ret rfl
    · refine sim_guardF (e := bv) (fun hb22 => ?_) (fun c23 => ?_)
      · simp only [hb22, cond_true, cond_false, Bool.not_true, Bool.not_false, Bool.true_and, Bool.and_true, Bool.false_and, Bool.not_not]
        refine sim_let (v := bv (bif c2 then c13 else false)) (pick_b _ _ _) ?_
        exact sim_ret rfl
      · refine sim_let (v := bv (bif ltS a_.first b_.first then true else c23)) (pick_b' _ _ _) ?_
        exact sim_ret (release_plain (by rfl) _)
theorem tt_spec_l18Before : PureOK Tryd.prog n_spec_l18Before (C2 (fun c : Bool => enc c) tp_spec_l18Before) := pureC2 E0 mixed hb_spec_l18Before fun a_p b_p => sim_getP fun a_ hp_a_ => sim_getP fun b_ hp_b_ => ts_spec_l18Before _  a_ b_ hp_a_ hp_b_

def s0_spec_l18Ok (m_ : Model) : Int → Option (Sum Int (Sum Unit Bool)) := fun w3 =>
  bif decide (w3 < (((m_.bigrams.getD []).length : Nat) : Int)) then
    obind (getI (m_.bigrams.getD []) w3) fun a16 =>
    obind (t_spec_l18Bigram a16) fun c20 =>
    obind (bif !c20 then some false else (some (decide (0 < w3)))) fun c22 =>
    obind (bif (!(!c20) && c22) then (obind (getI (m_.bigrams.getD []) (wr (w3 - 1))) fun a26 => obind (getI (m_.bigrams.getD []) w3) fun a30 => obind (t_spec_l18Before a26 a30) fun c34 => some (!c34)) else some false) fun c35 =>
    obind (bif !c20 then some false else (some (bif c22 then c35 else false))) fun c51 =>
    bif (bif !c20 then true else c51) then
      some (.inr (.inr false))
    else
      some (.inl (wr (w3 + 1)))
  else
    some (.inr (.inl ()))
def t_spec_l18Ok (m_ : Model) : Option Bool :=
  obind (loopT (s0_spec_l18Ok m_) 0) fun qq57 => match qq57 with
  | (.inl _) =>
      obind (some (within m_.default 0 1000000)) fun c8 =>
      obind (bif c8 then (some (decide ((((m_.bigrams.getD []).length : Nat) : Int) ≤ 60))) else some false) fun c10 =>
      some (bif c8 then c10 else false)
  | (.inr q13) =>
      some q13
def tp_spec_l18Ok (m_p : Pt Model) : Option Bool := obind m_p.get fun m_ => t_spec_l18Ok m_

theorem tl0_spec_l18Ok (env : Nat → Contract) {B : Base} (he_spec_l00In : env n_spec_l00In = .pure (T3 within)) (he_spec_l18Before : env n_spec_l18Before = .pure (C2 (fun c : Bool => enc c) tp_spec_l18Before)) (he_spec_l18Bigram : env n_spec_l18Bigram = .pure (C1 (fun c : Bool => enc c) tp_spec_l18Bigram)) (m_ : Model) (m_p : Pt Model) (hp_m_ : m_p.get = some m_)  {st : Int} {tm : TM} {h : Heap} (R : (fun (st : Int) tm h1 => match st with | w3 => tm = [AV.fptr (Row.w Model) (m_p.tab.map Row.cells) m_p.i 0, und, AV.top, iv w3, AV.top, AV.top, AV.top, AV.top, AV.top, AV.top, AV.top, AV.top, AV.top, AV.top, AV.top, AV.top, AV.top, AV.top, AV.top, AV.top, AV.top, AV.top, AV.top, AV.top, AV.top, AV.top, AV.top, AV.top, AV.top, AV.top, AV.top, AV.top, AV.top, AV.top, AV.top, AV.top, AV.top, AV.top, AV.top, AV.top, AV.top, AV.top, und, und, und, und, und, und, und, und, und, und, und, und, und] ∧ Hold B h1 []) st tm h) : Sim (loopP hm0_spec_l18Ok xm0_spec_l18Ok (lb0_spec_l18Ok env) tm h) (loopT (s0_spec_l18Ok m_) st) (fun (q : Sum Unit Bool) (r : Res) => match q with | .inl _ => ∃ (q7 : Int) (z6 : AV) (h4 : Heap), r = (.exit 0, [AV.fptr (Row.w Model) (m_p.tab.map Row.cells) m_p.i 0, und, z6, iv q7, AV.top, AV.top, AV.top, AV.top, AV.top, AV.top, AV.top, AV.top, AV.top, AV.top, AV.top, AV.top, AV.top, AV.top, AV.top, AV.top, AV.top, AV.top, AV.top, AV.top, AV.top, AV.top, AV.top, AV.top, AV.top, AV.top, AV.top, AV.top, AV.top, AV.top, AV.top, AV.top, AV.top, AV.top, AV.top, AV.top, AV.top, AV.top, und, und, und, und, und, und, und, und, und, und, und, und, und], h4) ∧ Hold B h4 [] | .inr q13 => ∃ (q14 : Int) (h11 : Heap), r = (.ret, [AV.fptr (Row.w Model) (m_p.tab.map Row.cells) m_p.i 0, und, bv q13, iv q14, AV.top, AV.top, AV.top, AV.top, AV.top, AV.top, AV.top, AV.top, AV.top, AV.top, AV.top, AV.top, AV.top, AV.top, AV.top, AV.top, AV.top, AV.top, AV.top, AV.top, AV.top, AV.top, AV.top, AV.top, AV.top, AV.top, AV.top, AV.top, AV.top, AV.top, AV.top, AV.top, AV.top, AV.top, AV.top, AV.top, AV.top, AV.top, und, und, und, und, und, und, und, und, und, und, und, und, und], h11) ∧ Hold B h11 []) := by
  refine loop_sim (Rel := fun (st : Int) tm h1 => match st with | w3 => tm = [AV.fptr (Row.w Model) (m_p.tab.map Row.cells) m_p.i 0, und, AV.top, iv w3, AV.top, AV.top, AV.top, AV.top, AV.top, AV.top, AV.top, AV.top, AV.top, AV.top, AV.top, AV.top, AV.top, AV.top, AV.top, AV.top, AV.top, AV.top, AV.top, AV.top, AV.top, AV.top, AV.top, AV.top, AV.top, AV.top, AV.top, AV.top, AV.top, AV.top, AV.top, AV.top, AV.top, AV.top, AV.top, AV.top, AV.top, AV.top, und, und, und, und, und, und, und, und, und, und, und, und, und] ∧ Hold B h1 []) (fun w3 tm h1 R => ?_) R
  obtain ⟨rfl, O2⟩ := R
  rw [e_lb0_spec_l18Ok]
  unfold s0_spec_l18Ok
  dsimp only
  refine sim_let (v := AV.fptr (Row.w Model) (m_p.tab.map Row.cells) m_p.i 0) rfl ?_
  refine sim_let (v := AV.fptr (Row.w Model) (m_p.tab.map Row.cells) m_p.i 1) rfl ?_
  refine sim_let (v := Sl.enc m_.bigrams) (ld_pt hp_m_ false 1 1) ?_
  refine sim_let (v := iv (((m_.bigrams.getD []).length : Nat) : Int)) (Tab.enc h1 m_.bigrams).len ?_
  refine sim_let (v := bv (decide (w3 < (((m_.bigrams.getD []).length : Nat) : Int)))) (aBin_lss _ _) ?_
  refine sim_cond (fun c15 => ?_) (fun c15 => ?_)
  · refine sim_let (v := AV.fptr (Row.w Model) (m_p.tab.map Row.cells) m_p.i 0) rfl ?_
    refine sim_let (v := AV.fptr (Row.w Model) (m_p.tab.map Row.cells) m_p.i 1) rfl ?_
    refine sim_let (v := Sl.enc m_.bigrams) (ld_pt hp_m_ false 1 1) ?_
    refine sim_get (Tab.enc h1 m_.bigrams) (fun m17 a16 hi18 hm19 => ?_)
    refine sim_eqO (y' := tp_spec_l18Bigram ⟨m_.bigrams.getD [], m17⟩) (by simp only [tp_spec_l18Bigram, get_ptAt hm19, obind_sm]) ?_
    refine sim_callQ1 he_spec_l18Bigram (snapD_elpR _ m_.bigrams hm19) (fun c20 => ?_)
    refine sim_let2 (hand_plain (by rfl) _ _) ?_
    refine sim_let (v := bv (!c20)) (aUn_not _) ?_
    refine sim_g3F (e := bv) (fun hb21 => ?_) (fun y23 y24 c22 => ?_)
    · refine sim_o0 ?_
      refine sim_o1 ?_
      refine sim_let (v := bv (decide (0 < w3))) (aBin_gtr _ _) ?_
      refine sim_o0 ?_
      exact sim_ret rfl
    · simp only [gv_FT]
      refine sim_g15T (e := bv) (fun hb25 => ?_) (fun y36 y37 y38 y39 y40 y41 y42 y43 y44 y45 y46 y47 y48 y49 c35 => ?_)
      · refine sim_o0 ?_
        refine sim_o1 ?_
        refine sim_let (v := AV.fptr (Row.w Model) (m_p.tab.map Row.cells) m_p.i 0) rfl ?_
        refine sim_o0 ?_
        refine sim_o1 ?_
        refine sim_let (v := AV.fptr (Row.w Model) (m_p.tab.map Row.cells) m_p.i 1) rfl ?_
        refine sim_o0 ?_
        refine sim_o1 ?_
        refine sim_let (v := Sl.enc m_.bigrams) (ld_pt hp_m_ false 1 1) ?_
        refine sim_o0 ?_
        refine sim_o0 ?_
        refine sim_o1 ?_
        refine sim_let (v := iv (wr (w3 - 1))) (aBin_sub _ _) ?_
        refine sim_o0 ?_
        refine sim_o1 ?_
        refine sim_get (Tab.enc h1 m_.bigrams) (fun m27 a26 hi28 hm29 => ?_)
        refine sim_o0 ?_
        refine sim_o0 ?_
        refine sim_o1 ?_
        refine sim_let (v := AV.fptr (Row.w Model) (m_p.tab.map Row.cells) m_p.i 0) rfl ?_
        refine sim_o0 ?_
        refine sim_o1 ?_
        refine sim_let (v := AV.fptr (Row.w Model) (m_p.tab.map Row.cells) m_p.i 1) rfl ?_
        refine sim_o0 ?_
        refine sim_o1 ?_
        refine sim_let (v := Sl.enc m_.bigrams) (ld_pt hp_m_ false 1 1) ?_
        refine sim_o0 ?_
        refine sim_o0 ?_
        refine sim_o1 ?_
        refine sim_get (Tab.enc h1 m_.bigrams) (fun m31 a30 hi32 hm33 => ?_)
        refine sim_o0 ?_
        refine sim_o2 ?_
        refine sim_eqO (y' := tp_spec_l18Before ⟨m_.bigrams.getD [], m27⟩ ⟨m_.bigrams.getD [], m31⟩) (by simp only [tp_spec_l18Before, get_ptAt hm29, get_ptAt hm33, obind_sm]) ?_
        refine sim_callQ2 he_spec_l18Before (snapD_elpR _ m_.bigrams hm29) (snapD_elpR _ m_.bigrams hm33) (fun c34 => ?_)
        refine sim_let2 (hand_plain (by rfl) _ _) ?_
        refine sim_o0 ?_
        refine sim_let (v := bv (!c34)) (aUn_not _) ?_
        exact sim_ret rfl
      · refine sim_guardF (e := bv) (fun hb50 => ?_) (fun c51 => ?_)
        · simp only [hb50, cond_true, cond_false, Bool.not_true, Bool.not_false, Bool.true_and, Bool.and_true, Bool.false_and, Bool.not_not]
          refine sim_let (v := bv (bif c22 then c35 else false)) (pick_b _ _ _) ?_
          exact sim_ret rfl
        · refine sim_let (v := bv (bif !c20 then true else c51)) (pick_b' _ _ _) ?_
          refine sim_cond (fun c52 => ?_) (fun c52 => ?_)
          · exact sim_ret ⟨nofun, _, _, rfl, O2⟩
          · refine sim_let (v := iv (wr (w3 + 1))) (aBin_add _ _) ?_
            exact sim_ret ⟨rfl, rfl, O2⟩
  · exact sim_ret ⟨nofun, _, _, _, rfl, O2⟩
theorem ts_spec_l18Ok (env : Nat → Contract) (he_spec_l00In : env n_spec_l00In = .pure (T3 within)) (he_spec_l18Before : env n_spec_l18Before = .pure (C2 (fun c : Bool => enc c) tp_spec_l18Before)) (he_spec_l18Bigram : env n_spec_l18Bigram = .pure (C1 (fun c : Bool => enc c) tp_spec_l18Bigram)) (m_ : Model) {m_p : Pt Model} (hp_m_ : m_p.get = some m_) : Sim (denFn Tryd.prog env n_spec_l18Ok [AV.fptr (Row.w Model) (m_p.tab.map Row.cells) m_p.i 0] []) (t_spec_l18Ok m_) fun c p => release p.2 depth p.1 = some ((fun c : Bool => enc c) c) := by
  have O := Hold.nil []
  generalize hB : (⟨[], []⟩ : Base) = B at O
  clear hB
  rw [e_spec_l18Ok]
  unfold t_spec_l18Ok
  refine sim_bind ((tl0_spec_l18Ok env he_spec_l00In he_spec_l18Before he_spec_l18Bigram m_ m_p hp_m_) ⟨rfl, O⟩) (fun qq57 r hq => ?_)
  rcases qq57 with _ | q13
  · obtain ⟨q7, z6, h4, rfl, O5⟩ := hq
    rw [e_lk0x0_spec_l18Ok]
    refine sim_let (v := AV.fptr (Row.w Model) (m_p.tab.map Row.cells) m_p.i 0) rfl ?_
    refine sim_let (v := AV.fptr (Row.w Model) (m_p.tab.map Row.cells) m_p.i 0) rfl ?_
    refine sim_let (v := iv m_.default) (ld_pt hp_m_ false 1 0) ?_
    refine sim_callV3 (t := within) he_spec_l00In (snapD_int _ _) (snapD_int _ _) (snapD_int _ _) (fun c8 => ?_)
    refine sim_guardT (e := bv) (fun hb9 => ?_) (fun c10 => ?_)
    · refine sim_let (v := AV.fptr (Row.w Model) (m_p.tab.map Row.cells) m_p.i 0) rfl ?_
      refine sim_let (v := AV.fptr (Row.w Model) (m_p.tab.map Row.cells) m_p.i 1) rfl ?_
      refine sim_let (v := Sl.enc m_.bigrams) (ld_pt hp_m_ false 1 1) ?_
      refine sim_let (v := iv (((m_.bigrams.getD []).length : Nat) : Int)) (Tab.enc h4 m_.bigrams).len ?_
      refine sim_let (v := bv (decide ((((m_.bigrams.getD []).length : Nat) : Int) ≤ 60))) (aBin_leq _ _) ?_
      exact sim_ret rfl
    · refine sim_let (v := bv (bif c8 then c10 else false)) (pick_b _ _ _) ?_
      exact sim_ret (release_plain (by rfl) _)
  · obtain ⟨q14, h11, rfl, O12⟩ := hq
    rw [e_lk0r_spec_l18Ok]
    exact sim_ret (release_plain (by rfl) _)
theorem tt_spec_l18Ok : PureOK Tryd.prog n_spec_l18Ok (C1 (fun c : Bool => enc c) tp_spec_l18Ok) := pureC1 (Econs ok_spec_l00In (Econs tt_spec_l18Before (Econs tt_spec_l18Bigram E0))) mixed hb_spec_l18Ok fun m_p => sim_getP fun m_ hp_m_ => ts_spec_l18Ok _ (by simp [envL]) (by simp [envL]) (by simp [envL]) m_ hp_m_

def s0_spec_l01Dec : ((Sl UInt8) × Int) → Option (Sum ((Sl UInt8) × Int) (Sl UInt8)) := fun (w6, w9) =>
  bif !decide (w9 = 0) then
    bif decide ((Int.tmod w9 10) < 0) then
      obind (appO (some ([byteI (wr (48 + (wr (0 - Int.tmod w9 10))))] : List UInt8)) (w6.getD [])) fun _ =>
      some (.inl ((appS (some ([byteI (wr (48 + (wr (0 - Int.tmod w9 10))))] : List UInt8)) (w6.getD [])), wr (Int.tdiv w9 10)))
    else
      obind (appO (some ([byteI (wr (48 + (Int.tmod w9 10)))] : List UInt8)) (w6.getD [])) fun _ =>
      some (.inl ((appS (some ([byteI (wr (48 + (Int.tmod w9 10)))] : List UInt8)) (w6.getD [])), wr (Int.tdiv w9 10)))
  else
    some (.inr w6)
def t_spec_l01Dec (n_ : Int) : Option ByteArray :=
  obind (loopT s0_spec_l01Dec ((some ([] : List UInt8)), n_)) fun q13 =>
  bif decide ((((q13.getD []).length : Nat) : Int) = 0) then
    some (⟨#[48]⟩ : ByteArray)
  else
    bif decide (n_ < 0) then
      obind (catO (⟨#[45]⟩ : ByteArray) (strL (q13.getD []))) fun s18 =>
      some s18
    else
      some (strL (q13.getD []))

theorem tl0_spec_l01Dec (env : Nat → Contract) {B : Base}  (n_ : Int) (x1 : AV)  {st : (Sl UInt8) × Int} {tm : TM} {h : Heap} (R : (fun (st : (Sl UInt8) × Int) tm h7 => match st with | (w6, w9) => ∃ z5, tm = [iv n_, und, sv (⟨#[]⟩ : ByteArray), z5, iv w9, AV.top, x1, iv n_, AV.top, AV.top, AV.top, AV.top, AV.top, AV.top, AV.top, AV.top, AV.top, AV.top, AV.top, AV.top, AV.top, AV.top, AV.top, AV.top, und, und, und, und, und, und, und, und, und, und] ∧ Hold B h7 [(z5, obS (w6 : Sl UInt8))]) st tm h) : Sim (loopP hm0_spec_l01Dec xm0_spec_l01Dec (lb0_spec_l01Dec env) tm h) (loopT s0_spec_l01Dec st) (fun (q : Sl UInt8) (r : Res) => match q with | q13 => ∃ (q14 : Int) (z12 : AV) (z15 : AV) (h10 : Heap), r = (.exit 0, [iv n_, und, sv (⟨#[]⟩ : ByteArray), z12, iv q14, z15, x1, iv n_, AV.top, AV.top, AV.top, AV.top, AV.top, AV.top, AV.top, AV.top, AV.top, AV.top, AV.top, AV.top, AV.top, AV.top, AV.top, AV.top, und, und, und, und, und, und, und, und, und, und], h10) ∧ Hold B h10 [(z12, obS (q13 : Sl UInt8))]) := by
  refine loop_sim (Rel := fun (st : (Sl UInt8) × Int) tm h7 => match st with | (w6, w9) => ∃ z5, tm = [iv n_, und, sv (⟨#[]⟩ : ByteArray), z5, iv w9, AV.top, x1, iv n_, AV.top, AV.top, AV.top, AV.top, AV.top, AV.top, AV.top, AV.top, AV.top, AV.top, AV.top, AV.top, AV.top, AV.top, AV.top, AV.top, und, und, und, und, und, und, und, und, und, und] ∧ Hold B h7 [(z5, obS (w6 : Sl UInt8))]) (fun st tm h7 R => ?_) R
  obtain ⟨w6, w9⟩ := st
  obtain ⟨z5, rfl, O8⟩ := R
  rw [e_lb0_spec_l01Dec]
  unfold s0_spec_l01Dec
  dsimp only
  refine sim_let (v := bv (!decide (w9 = 0))) (aCmp_ne _ _) ?_
  refine sim_cond (fun c19 => ?_) (fun c19 => ?_)
  · refine sim_let (v := iv (Int.tmod w9 10)) (aBin_rem _ _ (by decide)) ?_
    refine sim_let (v := bv (decide ((Int.tmod w9 10) < 0))) (aBin_lss _ _) ?_
    refine sim_cond (fun c20 => ?_) (fun c20 => ?_)
    · refine sim_let (v := iv (wr (0 - Int.tmod w9 10))) (aUn_neg _) ?_
      refine sim_let (v := iv (wr (48 + (wr (0 - Int.tmod w9 10))))) (aBin_add _ _) ?_
      refine sim_let (v := bt (byteI (wr (48 + (wr (0 - Int.tmod w9 10)))))) (conv_u8 _) ?_
      refine sim_build (A := UInt8) O8 ([byteI (wr (48 + (wr (0 - Int.tmod w9 10))))] : List UInt8) rfl (by first | rfl | simp [aFillRows, zrows]) rfl (fun x21 h22 O23 => ?_)
      replace O23 : Hold B h22 [(z5, obS (w6 : Sl UInt8)), (x21, obS ((some ([byteI (wr (48 + (wr (0 - Int.tmod w9 10))))] : List UInt8)) : Sl UInt8))] := O23
      refine sim_append (A := UInt8) (s := (some ([byteI (wr (48 + (wr (0 - Int.tmod w9 10))))] : List UInt8))) O23 1 (w6.getD []) rfl (O23.src (A := UInt8) (s := w6) 0 rfl) (by decide) (fun x26 h27 O28 => ?_)
      replace O28 : Hold B h27 [(z5, obS (w6 : Sl UInt8)), (x26, obS ((appS (some ([byteI (wr (48 + (wr (0 - Int.tmod w9 10))))] : List UInt8)) (w6.getD [])) : Sl UInt8))] := O28
      refine sim_let (v := iv (wr (Int.tdiv w9 10))) (aBin_quo _ _ (by decide)) ?_
      have O30 : Hold B h27 [(x26, obS ((appS (some ([byteI (wr (48 + (wr (0 - Int.tmod w9 10))))] : List UInt8)) (w6.getD [])) : Sl UInt8))] := O28.sel [1] (by decide) rfl
      exact sim_ret ⟨rfl, _, rfl, O30⟩
    · refine sim_let (v := iv (wr (48 + (Int.tmod w9 10)))) (aBin_add _ _) ?_
      refine sim_let (v := bt (byteI (wr (48 + (Int.tmod w9 10))))) (conv_u8 _) ?_
      refine sim_build (A := UInt8) O8 ([byteI (wr (48 + (Int.tmod w9 10)))] : List UInt8) rfl (by first | rfl | simp [aFillRows, zrows]) rfl (fun x31 h32 O33 => ?_)
      replace O33 : Hold B h32 [(z5, obS (w6 : Sl UInt8)), (x31, obS ((some ([byteI (wr (48 + (Int.tmod w9 10)))] : List UInt8)) : Sl UInt8))] := O33
      refine sim_append (A := UInt8) (s := (some ([byteI (wr (48 + (Int.tmod w9 10)))] : List UInt8))) O33 1 (w6.getD []) rfl (O33.src (A := UInt8) (s := w6) 0 rfl) (by decide) (fun x36 h37 O38 => ?_)
      replace O38 : Hold B h37 [(z5, obS (w6 : Sl UInt8)), (x36, obS ((appS (some ([byteI (wr (48 + (Int.tmod w9 10)))] : List UInt8)) (w6.getD [])) : Sl UInt8))] := O38
      refine sim_let (v := iv (wr (Int.tdiv w9 10))) (aBin_quo _ _ (by decide)) ?_
      have O40 : Hold B h37 [(x36, obS ((appS (some ([byteI (wr (48 + (Int.tmod w9 10)))] : List UInt8)) (w6.getD [])) : Sl UInt8))] := O38.sel [1] (by decide) rfl
      exact sim_ret ⟨rfl, _, rfl, O40⟩
  · exact sim_ret ⟨nofun, _, _, _, _, rfl, O8⟩
theorem ts_spec_l01Dec (env : Nat → Contract)  (n_ : Int) : Sim (denFn Tryd.prog env n_spec_l01Dec [iv n_] []) (t_spec_l01Dec n_) fun c p => release p.2 depth p.1 = some ((fun c : ByteArray => enc c) c) := by
  have O := Hold.nil []
  generalize hB : (⟨[], []⟩ : Base) = B at O
  clear hB
  rw [e_spec_l01Dec]
  unfold t_spec_l01Dec
  refine sim_build (A := UInt8) O ([] : List UInt8) rfl (by first | rfl | simp [aFillRows, zrows]) rfl (fun x1 h2 O3 => ?_)
  replace O3 : Hold B h2 [(x1, obS ((some ([] : List UInt8)) : Sl UInt8))] := O3
  refine sim_bind ((tl0_spec_l01Dec env n_ x1) ⟨_, rfl, O3⟩) (fun qq43 r hq => ?_)
  revert hq
  revert qq43
  intro q13 hq
  obtain ⟨q14, z12, z15, h10, rfl, O11⟩ := hq
  rw [e_lk0x0_spec_l01Dec]
  refine sim_let (v := iv (((q13.getD []).length : Nat) : Int)) (O11.tab (A := UInt8) (s := q13) 0 rfl).len ?_
  refine sim_let (v := bv (decide ((((q13.getD []).length : Nat) : Int) = 0))) (aCmp_eq _ _) ?_
  refine sim_cond (fun c16 => ?_) (fun c16 => ?_)
  · exact sim_ret (release_plain (by rfl) _)
  · refine sim_let (v := bv (decide (n_ < 0))) (aBin_lss _ _) ?_
    refine sim_cond (fun c17 => ?_) (fun c17 => ?_)
    · refine sim_let (v := sv (strL (q13.getD []))) (conv_str (s := q13) (O11.src (A := UInt8) (s := q13) 0 rfl)) ?_
      refine sim_cat (fun s18 => ?_)
      exact sim_ret (release_plain (by rfl) _)
    · refine sim_let (v := sv (strL (q13.getD []))) (conv_str (s := q13) (O11.src (A := UInt8) (s := q13) 0 rfl)) ?_
      exact sim_ret (release_plain (by rfl) _)
theorem tt_spec_l01Dec : PureOK Tryd.prog n_spec_l01Dec (C1 (fun c : ByteArray => enc c) t_spec_l01Dec) := pureC1 E0 mixed hb_spec_l01Dec fun n_ => ts_spec_l01Dec _  n_

def s0_impl_IsWord (l5 : List UInt8) : Int → Option (Sum Int (Sum Unit Bool)) := fun w8 =>
  bif decide (w8 < ((((some l5).getD []).length : Nat) : Int)) then
    obind (getI ((some l5).getD []) w8) fun a20 =>
    obind (some (isLow a20)) fun c24 =>
    bif !c24 then
      some (.inr (.inr false))
    else
      some (.inl (wr (w8 + 1)))
  else
    some (.inr (.inl ()))
def t_impl_IsWord (s_ : ByteArray) : Option Bool :=
  obind (bytesO s_) fun l5 =>
  obind (loopT (s0_impl_IsWord l5) 0) fun qq30 => match qq30 with
  | (.inl _) =>
      obind (bif decide (1 ≤ (s_.size : Int)) then (some (decide ((s_.size : Int) ≤ 10))) else some false) fun c14 =>
      some (bif decide (1 ≤ (s_.size : Int)) then c14 else false)
  | (.inr q17) =>
      some q17

theorem tl0_impl_IsWord (env : Nat → Contract) {B : Base} (he_impl_isLetter : env n_impl_isLetter = .pure (T1 isLow)) (s_ : ByteArray) (x1 : AV) (l5 : List UInt8)  {st : Int} {tm : TM} {h : Heap} (R : (fun (st : Int) tm h6 => match st with | w8 => tm = [sv s_, und, AV.top, und, AV.top, sv s_, x1, iv ((((some l5).getD []).length : Nat) : Int), iv w8, AV.top, AV.top, AV.top, AV.top, AV.top, AV.top, AV.top, und, und, und, und, und, und, und, und] ∧ Hold B h6 [(x1, obS ((some l5) : Sl UInt8))]) st tm h) : Sim (loopP hm0_impl_IsWord xm0_impl_IsWord (lb0_impl_IsWord env) tm h) (loopT (s0_impl_IsWord l5) st) (fun (q : Sum Unit Bool) (r : Res) => match q with | .inl _ => ∃ (z11 : AV) (z12 : AV) (h9 : Heap), r = (.exit 0, [sv s_, und, z11, und, z12, sv s_, x1, iv ((((some l5).getD []).length : Nat) : Int), AV.top, AV.top, AV.top, AV.top, AV.top, AV.top, AV.top, AV.top, und, und, und, und, und, und, und, und], h9) ∧ Hold B h9 [(x1, obS ((some l5) : Sl UInt8))] | .inr q17 => ∃ (q18 : UInt8) (h15 : Heap), r = (.ret, [sv s_, und, bv q17, und, bt q18, sv s_, x1, iv ((((some l5).getD []).length : Nat) : Int), AV.top, AV.top, AV.top, AV.top, AV.top, AV.top, AV.top, AV.top, und, und, und, und, und, und, und, und], h15) ∧ Hold B h15 [(x1, obS ((some l5) : Sl UInt8))]) := by
  refine loop_sim (Rel := fun (st : Int) tm h6 => match st with | w8 => tm = [sv s_, und, AV.top, und, AV.top, sv s_, x1, iv ((((some l5).getD []).length : Nat) : Int), iv w8, AV.top, AV.top, AV.top, AV.top, AV.top, AV.top, AV.top, und, und, und, und, und, und, und, und] ∧ Hold B h6 [(x1, obS ((some l5) : Sl UInt8))]) (fun w8 tm h6 R => ?_) R
  obtain ⟨rfl, O7⟩ := R
  rw [e_lb0_impl_IsWord]
  unfold s0_impl_IsWord
  dsimp only
  refine sim_let (v := bv (decide (w8 < ((((some l5).getD []).length : Nat) : Int)))) (aBin_lss _ _) ?_
  refine sim_cond (fun c19 => ?_) (fun c19 => ?_)
  · refine sim_get (O7.tab (A := UInt8) (s := (some l5)) 0 rfl) (fun m21 a20 hi22 hm23 => ?_)
    refine sim_let (v := bt a20) ((O7.tab (A := UInt8) (s := (some l5)) 0 rfl).ld hm23 false 1 0) ?_
    refine sim_callV1 (t := isLow) he_impl_isLetter (snapD_byte _ a20) (fun c24 => ?_)
    refine sim_let (v := bv (!c24)) (aUn_not _) ?_
    refine sim_cond (fun c25 => ?_) (fun c25 => ?_)
    · exact sim_ret ⟨nofun, _, _, rfl, O7⟩
    · refine sim_let (v := iv (wr (w8 + 1))) (aBin_add _ _) ?_
      exact sim_ret ⟨rfl, rfl, O7⟩
  · exact sim_ret ⟨nofun, _, _, _, rfl, O7⟩
theorem ts_impl_IsWord (env : Nat → Contract) (he_impl_isLetter : env n_impl_isLetter = .pure (T1 isLow)) (s_ : ByteArray) : Sim (denFn Tryd.prog env n_impl_IsWord [sv s_] []) (t_impl_IsWord s_) fun c p => release p.2 depth p.1 = some ((fun c : Bool => enc c) c) := by
  have O := Hold.nil []
  generalize hB : (⟨[], []⟩ : Base) = B at O
  clear hB
  rw [e_impl_IsWord]
  unfold t_impl_IsWord
  refine sim_bytes O (fun l5 x1 h2 O3 => ?_)
  replace O3 : Hold B h2 [(x1, obS ((some l5) : Sl UInt8))] := O3
  refine sim_let (v := iv ((((some l5).getD []).length : Nat) : Int)) (O3.tab (A := UInt8) (s := (some l5)) 0 rfl).len ?_
  refine sim_bind ((tl0_impl_IsWord env he_impl_isLetter s_ x1 l5) ⟨rfl, O3⟩) (fun qq30 r hq => ?_)
  rcases qq30 with _ | q17
  · obtain ⟨z11, z12, h9, rfl, O10⟩ := hq
    rw [e_lk0x0_impl_IsWord]
    refine sim_let (v := iv (s_.size : Int)) rfl ?_
    refine sim_let (v := bv (decide (1 ≤ (s_.size : Int)))) (aBin_geq _ _) ?_
    refine sim_guardT (e := bv) (fun hb13 => ?_) (fun c14 => ?_)
    · refine sim_let (v := iv (s_.size : Int)) rfl ?_
      refine sim_let (v := bv (decide ((s_.size : Int) ≤ 10))) (aBin_leq _ _) ?_
      exact sim_ret rfl
    · refine sim_let (v := bv (bif decide (1 ≤ (s_.size : Int)) then c14 else false)) (pick_b _ _ _) ?_
      exact sim_ret (release_plain (by rfl) _)
  · obtain ⟨q18, h15, rfl, O16⟩ := hq
    rw [e_lk0r_impl_IsWord]
    exact sim_ret (release_plain (by rfl) _)
theorem tt_impl_IsWord : PureOK Tryd.prog n_impl_IsWord (C1 (fun c : Bool => enc c) t_impl_IsWord) := pureC1 (Econs ok_impl_isLetter E0) mixed hb_impl_IsWord fun s_ => ts_impl_IsWord _ (by simp [envL]) s_

def t_impl_validBigram (b_ : Bigram) : Option Bool :=
  obind (t_impl_IsWord b_.second) fun c5 =>
  obind (bif c5 then (some (decide (b_.first = (⟨#[]⟩ : ByteArray)))) else some false) fun c7 =>
  obind (bif (c5 && !c7) then (obind (t_impl_IsWord b_.first) fun c9 => some c9) else some false) fun c10 =>
  obind (bif c5 then (some (bif c7 then true else c10)) else some false) fun c12 =>
  obind (bif (bif c5 then c12 else false) then (obind (some ((fun y => within y 0 1000000) b_.cost)) fun c14 => some c14) else some false) fun c15 =>
  some (bif (bif c5 then c12 else false) then c15 else false)

theorem ts_impl_validBigram (env : Nat → Contract) (he_impl_IsWord : env n_impl_IsWord = .pure (C1 (fun c : Bool => enc c) t_impl_IsWord)) (he_impl_isCost : env n_impl_isCost = .pure (T1 (fun y => within y 0 1000000))) (b_ : Bigram) : Sim (denFn Tryd.prog env n_impl_validBigram [AV.agg [sv b_.first, sv b_.second, iv b_.cost]] []) (t_impl_validBigram b_) fun c p => release p.2 depth p.1 = some ((fun c : Bool => enc c) c) := by
  have O := Hold.nil []
  generalize hB : (⟨[], []⟩ : Base) = B at O
  clear hB
  rw [e_impl_validBigram]
  unfold t_impl_validBigram
  refine sim_box O (cs := [sv b_.first, sv b_.second, iv b_.cost]) (by first | rfl | simp) (fun o1 h2 O3 => ?_)
  replace O3 : Hold B h2 [(AV.ptr o1 1 0 0, .pt 3 [sv b_.first, sv b_.second, iv b_.cost])] := O3
  refine sim_let (v := AV.ptr o1 1 0 1) rfl ?_
  refine sim_let (v := sv b_.second) (O3.ld 0 rfl false 1 1) ?_
  refine sim_call1 he_impl_IsWord (snapD_str _ _) (fun c5 => ?_)
  refine sim_let2 (hand_plain (by rfl) _ _) ?_
  refine sim_guardT (e := bv) (fun hb6 => ?_) (fun c7 => ?_)
  · refine sim_let (v := AV.ptr o1 1 0 0) rfl ?_
    refine sim_let (v := sv b_.first) (O3.ld 0 rfl false 1 0) ?_
    refine sim_let (v := bv (decide (b_.first = (⟨#[]⟩ : ByteArray)))) (aCmp_eqS _ _) ?_
    exact sim_ret rfl
  · simp only [gv_TF]
    refine sim_guardT (e := bv) (fun hb8 => ?_) (fun c10 => ?_)
    · refine sim_let (v := AV.ptr o1 1 0 0) rfl ?_
      refine sim_let (v := sv b_.first) (O3.ld 0 rfl false 1 0) ?_
      refine sim_call1 he_impl_IsWord (snapD_str _ _) (fun c9 => ?_)
      refine sim_let2 (hand_plain (by rfl) _ _) ?_
      exact sim_ret rfl
    · refine sim_guardT (e := bv) (fun hb11 => ?_) (fun c12 => ?_)
      · simp only [hb11, cond_true, cond_false, Bool.not_true, Bool.not_false, Bool.true_and, Bool.and_true, Bool.false_and, Bool.not_not]
        refine sim_let (v := bv (bif c7 then true else c10)) (pick_nb _ _ _) ?_
        exact sim_ret rfl
      · refine sim_let (v := bv (bif c5 then c12 else false)) (pick_b _ _ _) ?_
        refine sim_guardT (e := bv) (fun hb13 => ?_) (fun c15 => ?_)
        · refine sim_let (v := AV.ptr o1 1 0 2) rfl ?_
          refine sim_let (v := iv b_.cost) (O3.ld 0 rfl false 1 2) ?_
          refine sim_callV1 (t := (fun y => within y 0 1000000)) he_impl_isCost (snapD_int _ _) (fun c14 => ?_)
          exact sim_ret rfl
        · refine sim_let (v := bv (bif (bif c5 then c12 else false) then c15 else false)) (pick_b _ _ _) ?_
          exact sim_ret (release_plain (by rfl) _)
theorem tt_impl_validBigram : PureOK Tryd.prog n_impl_validBigram (C1 (fun c : Bool => enc c) t_impl_validBigram) := pureC1 (Econs tt_impl_IsWord (Econs ok_impl_isCost E0)) mixed hb_impl_validBigram fun b_ => ts_impl_validBigram _ (by simp [envL]) (by simp [envL]) b_

def s0_impl_ValidModel (m_ : Model) : Int → Option (Sum Int (Sum Unit Bool)) := fun w7 =>
  bif decide (w7 < (((m_.bigrams.getD []).length : Nat) : Int)) then
    obind (getI (m_.bigrams.getD []) w7) fun a22 =>
    obind (t_impl_validBigram a22) fun c32 =>
    obind (bif !c32 then some false else (some (decide (0 < w7)))) fun c34 =>
    obind (bif (!(!c32) && c34) then (obind (getI (m_.bigrams.getD []) (wr (w7 - 1))) fun a38 => obind (some (cmpB a38 a22)) fun c42 => some (decide (0 ≤ c42))) else some false) fun c43 =>
    obind (bif !c32 then some false else (some (bif c34 then c43 else false))) fun c53 =>
    bif (bif !c32 then true else c53) then
      some (.inr (.inr false))
    else
      some (.inl (wr (w7 + 1)))
  else
    some (.inr (.inl ()))
def t_impl_ValidModel (m_ : Model) : Option Bool :=
  obind (loopT (s0_impl_ValidModel m_) 0) fun qq59 => match qq59 with
  | (.inl _) =>
      obind (some ((fun y => within y 0 1000000) m_.default)) fun c13 =>
      obind (bif c13 then (some (decide ((((m_.bigrams.getD []).length : Nat) : Int) ≤ 60))) else some false) fun c15 =>
      some (bif c13 then c15 else false)
  | (.inr q18) =>
      some q18

theorem tl0_impl_ValidModel (env : Nat → Contract) {B : Base} (he_impl_compareBigrams : env n_impl_compareBigrams = .pure (T2 cmpB)) (he_impl_isCost : env n_impl_isCost = .pure (T1 (fun y => within y 0 1000000))) (he_impl_validBigram : env n_impl_validBigram = .pure (C1 (fun c : Bool => enc c) t_impl_validBigram)) (m_ : Model) (o1 : Nat)  {st : Int} {tm : TM} {h : Heap} (R : (fun (st : Int) tm h5 => match st with | w7 => tm = [AV.agg [iv m_.default, Sl.enc m_.bigrams], AV.ptr o1 1 0 0, AV.top, AV.top, AV.top, AV.ptr o1 1 0 1, Sl.enc m_.bigrams, iv (((m_.bigrams.getD []).length : Nat) : Int), iv w7, AV.top, AV.top, AV.top, AV.top, AV.top, AV.top, AV.top, AV.top, AV.top, AV.top, AV.top, AV.top, AV.top, AV.top, AV.top, AV.top, AV.top, AV.top, AV.top, AV.top, AV.top, AV.top, AV.top, und, und, und, und, und, und, und, und, und] ∧ Hold B h5 [(AV.ptr o1 1 0 0, .pt 2 [iv m_.default, Sl.enc m_.bigrams])]) st tm h) : Sim (loopP hm0_impl_ValidModel xm0_impl_ValidModel (lb0_impl_ValidModel env) tm h) (loopT (s0_impl_ValidModel m_) st) (fun (q : Sum Unit Bool) (r : Res) => match q with | .inl _ => ∃ (z10 : AV) (z11 : AV) (z12 : AV) (h8 : Heap), r = (.exit 0, [AV.agg [iv m_.default, Sl.enc m_.bigrams], AV.ptr o1 1 0 0, z10, z11, z12, AV.ptr o1 1 0 1, Sl.enc m_.bigrams, iv (((m_.bigrams.getD []).length : Nat) : Int), AV.top, AV.top, AV.top, AV.top, AV.top, AV.top, AV.top, AV.top, AV.top, AV.top, AV.top, AV.top, AV.top, AV.top, AV.top, AV.top, AV.top, AV.top, AV.top, AV.top, AV.top, AV.top, AV.top, AV.top, und, und, und, und, und, und, und, und, und], h8) ∧ Hold B h8 [(AV.ptr o1 1 0 0, .pt 2 [iv m_.default, Sl.enc m_.bigrams])] | .inr q18 => ∃ (q19 : Int) (z20 : AV) (h16 : Heap), r = (.ret, [AV.agg [iv m_.default, Sl.enc m_.bigrams], AV.ptr o1 1 0 0, bv q18, iv q19, z20, AV.ptr o1 1 0 1, Sl.enc m_.bigrams, iv (((m_.bigrams.getD []).length : Nat) : Int), AV.top, AV.top, AV.top, AV.top, AV.top, AV.top, AV.top, AV.top, AV.top, AV.top, AV.top, AV.top, AV.top, AV.top, AV.top, AV.top, AV.top, AV.top, AV.top, AV.top, AV.top, AV.top, AV.top, AV.top, und, und, und, und, und, und, und, und, und], h16) ∧ Hold B h16 [(AV.ptr o1 1 0 0, .pt 2 [iv m_.default, Sl.enc m_.bigrams])]) := by
  refine loop_sim (Rel := fun (st : Int) tm h5 => match st with | w7 => tm = [AV.agg [iv m_.default, Sl.enc m_.bigrams], AV.ptr o1 1 0 0, AV.top, AV.top, AV.top, AV.ptr o1 1 0 1, Sl.enc m_.bigrams, iv (((m_.bigrams.getD []).length : Nat) : Int), iv w7, AV.top, AV.top, AV.top, AV.top, AV.top, AV.top, AV.top, AV.top, AV.top, AV.top, AV.top, AV.top, AV.top, AV.top, AV.top, AV.top, AV.top, AV.top, AV.top, AV.top, AV.top, AV.top, AV.top, und, und, und, und, und, und, und, und, und] ∧ Hold B h5 [(AV.ptr o1 1 0 0, .pt 2 [iv m_.default, Sl.enc m_.bigrams])]) (fun w7 tm h5 R => ?_) R
  obtain ⟨rfl, O6⟩ := R
  rw [e_lb0_impl_ValidModel]
  unfold s0_impl_ValidModel
  dsimp only
  refine sim_let (v := bv (decide (w7 < (((m_.bigrams.getD []).length : Nat) : Int)))) (aBin_lss _ _) ?_
  refine sim_cond (fun c21 => ?_) (fun c21 => ?_)
  · refine sim_get (Tab.enc h5 m_.bigrams) (fun m23 a22 hi24 hm25 => ?_)
    refine sim_let (v := AV.agg [sv a22.first, sv a22.second, iv a22.cost]) ((Tab.enc h5 m_.bigrams).ld hm25 true 3 0) ?_
    refine sim_box O6 (cs := [sv (⟨#[]⟩ : ByteArray), sv (⟨#[]⟩ : ByteArray), iv 0]) (by first | rfl | simp) (fun o26 h27 O28 => ?_)
    replace O28 : Hold B h27 [(AV.ptr o1 1 0 0, .pt 2 [iv m_.default, Sl.enc m_.bigrams]), (AV.ptr o26 1 0 0, .pt 3 [sv (⟨#[]⟩ : ByteArray), sv (⟨#[]⟩ : ByteArray), iv 0])] := O28
    refine sim_store O28 1 (cs' := [sv a22.first, sv a22.second, iv a22.cost]) rfl (by first | rfl | simp) (by simp) (by first | rfl | simp) (by first | rfl | simp [splice]) (fun h30 O31 => ?_)
    replace O31 : Hold B h30 [(AV.ptr o1 1 0 0, .pt 2 [iv m_.default, Sl.enc m_.bigrams]), (AV.ptr o26 1 0 0, .pt 3 [sv a22.first, sv a22.second, iv a22.cost])] := O31
    refine sim_let (v := AV.agg [sv a22.first, sv a22.second, iv a22.cost]) (O31.ld 1 rfl true 3 0) ?_
    refine sim_callQ1 he_impl_validBigram (snapD_nr _ a22 rfl) (fun c32 => ?_)
    refine sim_let2 (hand_plain (by rfl) _ _) ?_
    refine sim_let (v := bv (!c32)) (aUn_not _) ?_
    refine sim_g3F (e := bv) (fun hb33 => ?_) (fun y35 y36 c34 => ?_)
    · refine sim_o0 ?_
      refine sim_o1 ?_
      refine sim_let (v := bv (decide (0 < w7))) (aBin_gtr _ _) ?_
      refine sim_o0 ?_
      exact sim_ret rfl
    · simp only [gv_FT]
      refine sim_g9T (e := bv) (fun hb37 => ?_) (fun y44 y45 y46 y47 y48 y49 y50 y51 c43 => ?_)
      · refine sim_o1 ?_
        refine sim_let (v := AV.ptr o1 1 0 1) rfl ?_
        refine sim_o0 ?_
        refine sim_o1 ?_
        refine sim_let (v := Sl.enc m_.bigrams) (O31.ld 0 rfl false 1 1) ?_
        refine sim_o0 ?_
        refine sim_o0 ?_
        refine sim_o1 ?_
        refine sim_let (v := iv (wr (w7 - 1))) (aBin_sub _ _) ?_
        refine sim_o0 ?_
        refine sim_o1 ?_
        refine sim_get (Tab.enc h30 m_.bigrams) (fun m39 a38 hi40 hm41 => ?_)
        refine sim_o0 ?_
        refine sim_o1 ?_
        refine sim_let (v := AV.agg [sv a38.first, sv a38.second, iv a38.cost]) ((Tab.enc h30 m_.bigrams).ld hm41 true 3 0) ?_
        refine sim_o0 ?_
        refine sim_o1 ?_
        refine sim_let (v := AV.agg [sv a22.first, sv a22.second, iv a22.cost]) (O31.ld 1 rfl true 3 0) ?_
        refine sim_o0 ?_
        refine sim_o2 ?_
        refine sim_callVQ2 (t := cmpB) he_impl_compareBigrams (snapD_nr _ a38 rfl) (snapD_nr _ a22 rfl) (fun c42 => ?_)
        refine sim_o0 ?_
        refine sim_let (v := bv (decide (0 ≤ c42))) (aBin_geq _ _) ?_
        exact sim_ret rfl
      · refine sim_guardF (e := bv) (fun hb52 => ?_) (fun c53 => ?_)
        · simp only [hb52, cond_true, cond_false, Bool.not_true, Bool.not_false, Bool.true_and, Bool.and_true, Bool.false_and, Bool.not_not]
          refine sim_let (v := bv (bif c34 then c43 else false)) (pick_b _ _ _) ?_
          exact sim_ret rfl
        · refine sim_let (v := bv (bif !c32 then true else c53)) (pick_b' _ _ _) ?_
          refine sim_cond (fun c54 => ?_) (fun c54 => ?_)
          · have O55 : Hold B h30 [(AV.ptr o1 1 0 0, .pt 2 [iv m_.default, Sl.enc m_.bigrams])] := O31.sel [0] (by decide) rfl
            exact sim_ret ⟨nofun, _, _, _, rfl, O55⟩
          · refine sim_let (v := iv (wr (w7 + 1))) (aBin_add _ _) ?_
            have O56 : Hold B h30 [(AV.ptr o1 1 0 0, .pt 2 [iv m_.default, Sl.enc m_.bigrams])] := O31.sel [0] (by decide) rfl
            exact sim_ret ⟨rfl, rfl, O56⟩
  · exact sim_ret ⟨nofun, _, _, _, _, rfl, O6⟩
theorem ts_impl_ValidModel (env : Nat → Contract) (he_impl_compareBigrams : env n_impl_compareBigrams = .pure (T2 cmpB)) (he_impl_isCost : env n_impl_isCost = .pure (T1 (fun y => within y 0 1000000))) (he_impl_validBigram : env n_impl_validBigram = .pure (C1 (fun c : Bool => enc c) t_impl_validBigram)) (m_ : Model) : Sim (denFn Tryd.prog env n_impl_ValidModel [AV.agg [iv m_.default, Sl.enc m_.bigrams]] []) (t_impl_ValidModel m_) fun c p => release p.2 depth p.1 = some ((fun c : Bool => enc c) c) := by
  have O := Hold.nil []
  generalize hB : (⟨[], []⟩ : Base) = B at O
  clear hB
  rw [e_impl_ValidModel]
  unfold t_impl_ValidModel
  refine sim_box O (cs := [iv m_.default, Sl.enc m_.bigrams]) (by first | rfl | simp) (fun o1 h2 O3 => ?_)
  replace O3 : Hold B h2 [(AV.ptr o1 1 0 0, .pt 2 [iv m_.default, Sl.enc m_.bigrams])] := O3
  refine sim_let (v := AV.ptr o1 1 0 1) rfl ?_
  refine sim_let (v := Sl.enc m_.bigrams) (O3.ld 0 rfl false 1 1) ?_
  refine sim_let (v := iv (((m_.bigrams.getD []).length : Nat) : Int)) (Tab.enc h2 m_.bigrams).len ?_
  refine sim_bind ((tl0_impl_ValidModel env he_impl_compareBigrams he_impl_isCost he_impl_validBigram m_ o1) ⟨rfl, O3⟩) (fun qq59 r hq => ?_)
  rcases qq59 with _ | q18
  · obtain ⟨z10, z11, z12, h8, rfl, O9⟩ := hq
    rw [e_lk0x0_impl_ValidModel]
    refine sim_let (v := AV.ptr o1 1 0 0) rfl ?_
    refine sim_let (v := iv m_.default) (O9.ld 0 rfl false 1 0) ?_
    refine sim_callV1 (t := (fun y => within y 0 1000000)) he_impl_isCost (snapD_int _ _) (fun c13 => ?_)
    refine sim_guardT (e := bv) (fun hb14 => ?_) (fun c15 => ?_)
    · refine sim_let (v := AV.ptr o1 1 0 1) rfl ?_
      refine sim_let (v := Sl.enc m_.bigrams) (O9.ld 0 rfl false 1 1) ?_
      refine sim_let (v := iv (((m_.bigrams.getD []).length : Nat) : Int)) (Tab.enc h8 m_.bigrams).len ?_
      refine sim_let (v := bv (decide ((((m_.bigrams.getD []).length : Nat) : Int) ≤ 60))) (aBin_leq _ _) ?_
      exact sim_ret rfl
    · refine sim_let (v := bv (bif c13 then c15 else false)) (pick_b _ _ _) ?_
      exact sim_ret (release_plain (by rfl) _)
  · obtain ⟨q19, z20, h16, rfl, O17⟩ := hq
    rw [e_lk0r_impl_ValidModel]
    exact sim_ret (release_plain (by rfl) _)
theorem tt_impl_ValidModel : PureOK Tryd.prog n_impl_ValidModel (C1 (fun c : Bool => enc c) t_impl_ValidModel) := pureC1 (Econs ok_impl_compareBigrams (Econs ok_impl_isCost (Econs tt_impl_validBigram E0))) mixed hb_impl_ValidModel fun m_ => ts_impl_ValidModel _ (by simp [envL]) (by simp [envL]) (by simp [envL]) m_

def t_impl_Decimal (n_ : Int) : Option ByteArray :=
  obind (fmtO n_ 10) fun c1 =>
  some c1

theorem ts_impl_Decimal (env : Nat → Contract) (he_strconv_FormatInt : env n_strconv_FormatInt = .pure (C2 (fun c : ByteArray => enc c) fmtO)) (n_ : Int) : Sim (denFn Tryd.prog env n_impl_Decimal [iv n_] []) (t_impl_Decimal n_) fun c p => release p.2 depth p.1 = some ((fun c : ByteArray => enc c) c) := by
  have O := Hold.nil []
  generalize hB : (⟨[], []⟩ : Base) = B at O
  clear hB
  rw [e_impl_Decimal]
  unfold t_impl_Decimal
  refine sim_call2 he_strconv_FormatInt (snapD_int _ _) (snapD_int _ _) (fun c1 => ?_)
  refine sim_let2 (hand_plain (by rfl) _ _) ?_
  exact sim_ret (release_plain (by rfl) _)
theorem tt_impl_Decimal : PureOK Tryd.prog n_impl_Decimal (C1 (fun c : ByteArray => enc c) t_impl_Decimal) := pureC1 (Econs tt_strconv_FormatInt E0) mixed hb_impl_Decimal fun n_ => ts_impl_Decimal _ (by simp [envL]) n_

def s0_laws_eqBigramS (a_ : Sl Bigram) (b_ : Sl Bigram) : Int → Option (Sum Int (Sum Unit Bool)) := fun w4 =>
  bif decide (w4 < (((a_.getD []).length : Nat) : Int)) then
    obind (getI (a_.getD []) w4) fun a14 =>
    obind (getI (b_.getD []) w4) fun a18 =>
    obind (some ((fun a b : Bigram => decide (a = b)) a14 a18)) fun c22 =>
    bif !c22 then
      some (.inr (.inr false))
    else
      some (.inl (wr (w4 + 1)))
  else
    some (.inr (.inl ()))
def t_laws_eqBigramS (a_ : Sl Bigram) (b_ : Sl Bigram) : Option Bool :=
  bif !decide ((((a_.getD []).length : Nat) : Int) = (((b_.getD []).length : Nat) : Int)) then
    some false
  else
    obind (loopT (s0_laws_eqBigramS a_ b_) 0) fun qq28 => match qq28 with
    | (.inl _) =>
        some true
    | (.inr q11) =>
        some q11

theorem tl0_laws_eqBigramS (env : Nat → Contract) {B : Base} (he_laws_eqBigram : env n_laws_eqBigram = .pure (T2 (fun a b : Bigram => decide (a = b)))) (a_ : Sl Bigram) (b_ : Sl Bigram)  {st : Int} {tm : TM} {h : Heap} (R : (fun (st : Int) tm h2 => match st with | w4 => tm = [Sl.enc a_, Sl.enc b_, und, und, AV.top, iv w4, Sl.enc a_, iv (((a_.getD []).length : Nat) : Int), Sl.enc b_, iv (((b_.getD []).length : Nat) : Int), bv (!decide ((((a_.getD []).length : Nat) : Int) = (((b_.getD []).length : Nat) : Int))), AV.top, AV.top, AV.top, AV.top, AV.top, AV.top, AV.top, AV.top, AV.top, AV.top, AV.top, AV.top, AV.top, AV.top, AV.top, AV.top] ∧ Hold B h2 []) st tm h) : Sim (loopP hm0_laws_eqBigramS xm0_laws_eqBigramS (lb0_laws_eqBigramS env) tm h) (loopT (s0_laws_eqBigramS a_ b_) st) (fun (q : Sum Unit Bool) (r : Res) => match q with | .inl _ => ∃ (q8 : Int) (z7 : AV) (h5 : Heap), r = (.exit 0, [Sl.enc a_, Sl.enc b_, und, und, z7, iv q8, Sl.enc a_, iv (((a_.getD []).length : Nat) : Int), Sl.enc b_, iv (((b_.getD []).length : Nat) : Int), bv (!decide ((((a_.getD []).length : Nat) : Int) = (((b_.getD []).length : Nat) : Int))), AV.top, AV.top, AV.top, AV.top, AV.top, AV.top, AV.top, AV.top, AV.top, AV.top, AV.top, AV.top, AV.top, AV.top, AV.top, AV.top], h5) ∧ Hold B h5 [] | .inr q11 => ∃ (q12 : Int) (h9 : Heap), r = (.ret, [Sl.enc a_, Sl.enc b_, und, und, bv q11, iv q12, Sl.enc a_, iv (((a_.getD []).length : Nat) : Int), Sl.enc b_, iv (((b_.getD []).length : Nat) : Int), bv (!decide ((((a_.getD []).length : Nat) : Int) = (((b_.getD []).length : Nat) : Int))), AV.top, AV.top, AV.top, AV.top, AV.top, AV.top, AV.top, AV.top, AV.top, AV.top, AV.top, AV.top, AV.top, AV.top, AV.top, AV.top], h9) ∧ Hold B h9 []) := by
  refine loop_sim (Rel := fun (st : Int) tm h2 => match st with | w4 => tm = [Sl.enc a_, Sl.enc b_, und, und, AV.top, iv w4, Sl.enc a_, iv (((a_.getD []).length : Nat) : Int), Sl.enc b_, iv (((b_.getD []).length : Nat) : Int), bv (!decide ((((a_.getD []).length : Nat) : Int) = (((b_.getD []).length : Nat) : Int))), AV.top, AV.top, AV.top, AV.top, AV.top, AV.top, AV.top, AV.top, AV.top, AV.top, AV.top, AV.top, AV.top, AV.top, AV.top, AV.top] ∧ Hold B h2 []) (fun w4 tm h2 R => ?_) R
  obtain ⟨rfl, O3⟩ := R
  rw [e_lb0_laws_eqBigramS]
  unfold s0_laws_eqBigramS
  dsimp only
  refine sim_let (v := iv (((a_.getD []).length : Nat) : Int)) (Tab.enc h2 a_).len ?_
  refine sim_let (v := bv (decide (w4 < (((a_.getD []).length : Nat) : Int)))) (aBin_lss _ _) ?_
  refine sim_cond (fun c13 => ?_) (fun c13 => ?_)
  · refine sim_get (Tab.enc h2 a_) (fun m15 a14 hi16 hm17 => ?_)
    refine sim_let (v := AV.agg [sv a14.first, sv a14.second, iv a14.cost]) ((Tab.enc h2 a_).ld hm17 true 3 0) ?_
    refine sim_get (Tab.enc h2 b_) (fun m19 a18 hi20 hm21 => ?_)
    refine sim_let (v := AV.agg [sv a18.first, sv a18.second, iv a18.cost]) ((Tab.enc h2 b_).ld hm21 true 3 0) ?_
    refine sim_callVQ2 (t := (fun a b : Bigram => decide (a = b))) he_laws_eqBigram (snapD_nr _ a14 rfl) (snapD_nr _ a18 rfl) (fun c22 => ?_)
    refine sim_let (v := bv (!c22)) (aUn_not _) ?_
    refine sim_cond (fun c23 => ?_) (fun c23 => ?_)
    · exact sim_ret ⟨nofun, _, _, rfl, O3⟩
    · refine sim_let (v := iv (wr (w4 + 1))) (aBin_add _ _) ?_
      exact sim_ret ⟨rfl, rfl, O3⟩
  · exact sim_ret ⟨nofun, _, _, _, rfl, O3⟩
theorem ts_laws_eqBigramS (env : Nat → Contract) (he_laws_eqBigram : env n_laws_eqBigram = .pure (T2 (fun a b : Bigram => decide (a = b)))) (a_ : Sl Bigram) (b_ : Sl Bigram) : Sim (denFn Tryd.prog env n_laws_eqBigramS [Sl.enc a_, Sl.enc b_] []) (t_laws_eqBigramS a_ b_) fun c p => release p.2 depth p.1 = some ((fun c : Bool => enc c) c) := by
  have O := Hold.nil []
  generalize hB : (⟨[], []⟩ : Base) = B at O
  clear hB
  rw [e_laws_eqBigramS]
  unfold t_laws_eqBigramS
  refine sim_let (v := iv (((a_.getD []).length : Nat) : Int)) (Tab.enc [] a_).len ?_
  refine sim_let (v := iv (((b_.getD []).length : Nat) : Int)) (Tab.enc [] b_).len ?_
  refine sim_let (v := bv (!decide ((((a_.getD []).length : Nat) : Int) = (((b_.getD []).length : Nat) : Int)))) (aCmp_ne _ _) ?_
  refine sim_cond (fun c1 => ?_) (fun c1 => ?_)
  · exact sim_ret (release_plain (by rfl) _)
  · refine sim_bind ((tl0_laws_eqBigramS env he_laws_eqBigram a_ b_) ⟨rfl, O⟩) (fun qq28 r hq => ?_)
    rcases qq28 with _ | q11
    · obtain ⟨q8, z7, h5, rfl, O6⟩ := hq
      rw [e_lk0x0_laws_eqBigramS]
      exact sim_ret (release_plain (by rfl) _)
    · obtain ⟨q12, h9, rfl, O10⟩ := hq
      rw [e_lk0r_laws_eqBigramS]
      exact sim_ret (release_plain (by rfl) _)
theorem tt_laws_eqBigramS : PureOK Tryd.prog n_laws_eqBigramS (C2 (fun c : Bool => enc c) t_laws_eqBigramS) := pureC2 (Econs ok_laws_eqBigram E0) mixed hb_laws_eqBigramS fun a_ b_ => ts_laws_eqBigramS _ (by simp [envL]) a_ b_

def t_laws_eqModel (a_ : Model) (b_ : Model) : Option Bool :=
  bif !decide (a_.default = b_.default) then
    some false
  else
    obind (t_laws_eqBigramS a_.bigrams b_.bigrams) fun c10 =>
    bif !c10 then
      some false
    else
      some true

theorem ts_laws_eqModel (env : Nat → Contract) (he_laws_eqBigramS : env n_laws_eqBigramS = .pure (C2 (fun c : Bool => enc c) t_laws_eqBigramS)) (a_ : Model) (b_ : Model) : Sim (denFn Tryd.prog env n_laws_eqModel [AV.agg [iv a_.default, Sl.enc a_.bigrams], AV.agg [iv b_.default, Sl.enc b_.bigrams]] []) (t_laws_eqModel a_ b_) fun c p => release p.2 depth p.1 = some ((fun c : Bool => enc c) c) := by
  have O := Hold.nil []
  generalize hB : (⟨[], []⟩ : Base) = B at O
  clear hB
  rw [e_laws_eqModel]
  unfold t_laws_eqModel
  refine sim_box O (cs := [iv a_.default, Sl.enc a_.bigrams]) (by first | rfl | simp) (fun o1 h2 O3 => ?_)
  replace O3 : Hold B h2 [(AV.ptr o1 1 0 0, .pt 2 [iv a_.default, Sl.enc a_.bigrams])] := O3
  refine sim_box O3 (cs := [iv b_.default, Sl.enc b_.bigrams]) (by first | rfl | simp) (fun o5 h6 O7 => ?_)
  replace O7 : Hold B h6 [(AV.ptr o1 1 0 0, .pt 2 [iv a_.default, Sl.enc a_.bigrams]), (AV.ptr o5 1 0 0, .pt 2 [iv b_.default, Sl.enc b_.bigrams])] := O7
  refine sim_let (v := AV.ptr o1 1 0 0) rfl ?_
  refine sim_let (v := iv a_.default) (O7.ld 0 rfl false 1 0) ?_
  refine sim_let (v := AV.ptr o5 1 0 0) rfl ?_
  refine sim_let (v := iv b_.default) (O7.ld 1 rfl false 1 0) ?_
  refine sim_let (v := bv (!decide (a_.default = b_.default))) (aCmp_ne _ _) ?_
  refine sim_cond (fun c9 => ?_) (fun c9 => ?_)
  · exact sim_ret (release_plain (by rfl) _)
  · refine sim_let (v := AV.ptr o1 1 0 1) rfl ?_
    refine sim_let (v := Sl.enc a_.bigrams) (O7.ld 0 rfl false 1 1) ?_
    refine sim_let (v := AV.ptr o5 1 0 1) rfl ?_
    refine sim_let (v := Sl.enc b_.bigrams) (O7.ld 1 rfl false 1 1) ?_
    refine sim_call2 he_laws_eqBigramS (snapD_enc _ _) (snapD_enc _ _) (fun c10 => ?_)
    refine sim_let2 (hand_plain (by rfl) _ _) ?_
    refine sim_let (v := bv (!c10)) (aUn_not _) ?_
    refine sim_cond (fun c11 => ?_) (fun c11 => ?_)
    · exact sim_ret (release_plain (by rfl) _)
    · exact sim_ret (release_plain (by rfl) _)
theorem tt_laws_eqModel : PureOK Tryd.prog n_laws_eqModel (C2 (fun c : Bool => enc c) t_laws_eqModel) := pureC2 (Econs tt_laws_eqBigramS E0) mixed hb_laws_eqModel fun a_ b_ => ts_laws_eqModel _ (by simp [envL]) a_ b_

def s0_slices_IndexFunc_impl_Symbol_impl_Symbol (p_ : Symbol → Option Bool) (s_ : Sl Symbol) : Int → Option (Sum Int (Sum Unit Int)) := fun w3 =>
  bif decide (w3 < (((s_.getD []).length : Nat) : Int)) then
    obind (getI (s_.getD []) w3) fun a13 =>
    obind (p_ a13) fun c17 =>
    bif c17 then
      some (.inr (.inr w3))
    else
      some (.inl (wr (w3 + 1)))
  else
    some (.inr (.inl ()))
def t_slices_IndexFunc_impl_Symbol_impl_Symbol (p_ : Symbol → Option Bool) (s_ : Sl Symbol) : Option Int :=
  obind (loopT (s0_slices_IndexFunc_impl_Symbol_impl_Symbol p_ s_) 0) fun qq26 => match qq26 with
  | (.inl _) =>
      some (-1)
  | (.inr q10) =>
      some q10

theorem tl0_slices_IndexFunc_impl_Symbol_impl_Symbol (env : Nat → Contract) {B : Base} {K : Type} [Cod K] {g : Nat} {caps : K → List AV} {P : K → Symbol → Option Bool} (hp : ∀ k (a : Symbol) h, Sim (aCall (env g) (AV.agg (Row.cells a) :: caps k) h) (P k a) fun b r => r = (bv b, h))  (s_ : Sl Symbol) (f_ : K)  {st : Int} {tm : TM} {h : Heap} (R : (fun (st : Int) tm h1 => match st with | w3 => tm = [Sl.enc s_, AV.fn g (caps f_), und, und, AV.top, AV.top, Sl.enc s_, iv (((s_.getD []).length : Nat) : Int), iv w3, AV.top, AV.top, AV.top, AV.top, AV.top, AV.top, AV.top, AV.top, AV.top, AV.top] ∧ Hold B h1 []) st tm h) : Sim (loopP hm0_slices_IndexFunc_impl_Symbol_impl_Symbol xm0_slices_IndexFunc_impl_Symbol_impl_Symbol (lb0_slices_IndexFunc_impl_Symbol_impl_Symbol env) tm h) (loopT (s0_slices_IndexFunc_impl_Symbol_impl_Symbol (P f_) s_) st) (fun (q : Sum Unit Int) (r : Res) => match q with | .inl _ => ∃ (z6 : AV) (z7 : AV) (h4 : Heap), r = (.exit 0, [Sl.enc s_, AV.fn g (caps f_), und, und, z6, z7, Sl.enc s_, iv (((s_.getD []).length : Nat) : Int), AV.top, AV.top, AV.top, AV.top, AV.top, AV.top, AV.top, AV.top, AV.top, AV.top, AV.top], h4) ∧ Hold B h4 [] | .inr q10 => ∃ (q11 : Int) (h8 : Heap), r = (.ret, [Sl.enc s_, AV.fn g (caps f_), und, und, iv q10, iv q11, Sl.enc s_, iv (((s_.getD []).length : Nat) : Int), AV.top, AV.top, AV.top, AV.top, AV.top, AV.top, AV.top, AV.top, AV.top, AV.top, AV.top], h8) ∧ Hold B h8 []) := by
  refine loop_sim (Rel := fun (st : Int) tm h1 => match st with | w3 => tm = [Sl.enc s_, AV.fn g (caps f_), und, und, AV.top, AV.top, Sl.enc s_, iv (((s_.getD []).length : Nat) : Int), iv w3, AV.top, AV.top, AV.top, AV.top, AV.top, AV.top, AV.top, AV.top, AV.top, AV.top] ∧ Hold B h1 []) (fun w3 tm h1 R => ?_) R
  obtain ⟨rfl, O2⟩ := R
  rw [e_lb0_slices_IndexFunc_impl_Symbol_impl_Symbol]
  unfold s0_slices_IndexFunc_impl_Symbol_impl_Symbol
  dsimp only
  refine sim_let (v := bv (decide (w3 < (((s_.getD []).length : Nat) : Int)))) (aBin_lss _ _) ?_
  refine sim_cond (fun c12 => ?_) (fun c12 => ?_)
  · refine sim_get (Tab.enc h1 s_) (fun m14 a13 hi15 hm16 => ?_)
    refine sim_let (v := AV.agg [sv a13.label, iv a13.box.x1, iv a13.box.y1, iv a13.box.x2, iv a13.box.y2]) ((Tab.enc h1 s_).ld hm16 true 5 0) ?_
    refine sim_bind2 (hp f_ a13 _) (fun c17 v18 hh19 hq20 => ?_)
    cases hq20
    refine sim_cond (fun c21 => ?_) (fun c21 => ?_)
    · exact sim_ret ⟨nofun, _, _, rfl, O2⟩
    · refine sim_let (v := iv (wr (w3 + 1))) (aBin_add _ _) ?_
      exact sim_ret ⟨rfl, rfl, O2⟩
  · exact sim_ret ⟨nofun, _, _, _, rfl, O2⟩
theorem ts_slices_IndexFunc_impl_Symbol_impl_Symbol (env : Nat → Contract) {K : Type} [Cod K] {g : Nat} {caps : K → List AV} {P : K → Symbol → Option Bool} (hp : ∀ k (a : Symbol) h, Sim (aCall (env g) (AV.agg (Row.cells a) :: caps k) h) (P k a) fun b r => r = (bv b, h))  (s_ : Sl Symbol) (f_ : K) : Sim (denFn Tryd.prog env n_slices_IndexFunc_impl_Symbol_impl_Symbol [Sl.enc s_, AV.fn g (caps f_)] []) (t_slices_IndexFunc_impl_Symbol_impl_Symbol (P f_) s_) fun c p => release p.2 depth p.1 = some ((fun c : Int => enc c) c) := by
  have O := Hold.nil []
  generalize hB : (⟨[], []⟩ : Base) = B at O
  clear hB
  rw [e_slices_IndexFunc_impl_Symbol_impl_Symbol]
  unfold t_slices_IndexFunc_impl_Symbol_impl_Symbol
  refine sim_let (v := iv (((s_.getD []).length : Nat) : Int)) (Tab.enc [] s_).len ?_
  refine sim_bind ((tl0_slices_IndexFunc_impl_Symbol_impl_Symbol env hp s_ f_) ⟨rfl, O⟩) (fun qq26 r hq => ?_)
  rcases qq26 with _ | q10
  · obtain ⟨z6, z7, h4, rfl, O5⟩ := hq
    rw [e_lk0x0_slices_IndexFunc_impl_Symbol_impl_Symbol]
    exact sim_ret (release_plain (by rfl) _)
  · obtain ⟨q11, h8, rfl, O9⟩ := hq
    rw [e_lk0r_slices_IndexFunc_impl_Symbol_impl_Symbol]
    exact sim_ret (release_plain (by rfl) _)
theorem tt0_slices_IndexFunc_impl_Symbol_impl_Symbol {g : Nat} {t : Symbol → Option Bool} (hg : PureOK Tryd.prog g (C1 (fun c : Bool => enc c) t)) : PureOK Tryd.prog n_slices_IndexFunc_impl_Symbol_impl_Symbol (C2 (fun c : Int => enc c) (fun (q : Sl Symbol) (k : Clo0 g) => t_slices_IndexFunc_impl_Symbol_impl_Symbol ((fun _ : Clo0 g => t) k) q)) := pureC2 (Econs hg E0) mixed hb_slices_IndexFunc_impl_Symbol_impl_Symbol fun q k => ts_slices_IndexFunc_impl_Symbol_impl_Symbol _ (caps := fun _ => []) (P := (fun _ : Clo0 g => t)) (fun k a h => callP0 (by simp [envL]) (snapD_nr _ a rfl)) q k
theorem tt1_slices_IndexFunc_impl_Symbol_impl_Symbol {g : Nat} {X : Type} [Row X] {tp : Symbol → Pt X → Option Bool} (hg : PureOK Tryd.prog g (C2 (fun c : Bool => enc c) tp)) : PureOK Tryd.prog n_slices_IndexFunc_impl_Symbol_impl_Symbol (C2 (fun c : Int => enc c) (fun (q : Sl Symbol) (k : Clo g (Pt X)) => t_slices_IndexFunc_impl_Symbol_impl_Symbol ((fun (k : Clo g (Pt X)) a => tp a k.val) k) q)) := pureC2 (Econs hg E0) mixed hb_slices_IndexFunc_impl_Symbol_impl_Symbol fun q k => ts_slices_IndexFunc_impl_Symbol_impl_Symbol _ (caps := fun k : Clo g (Pt X) => [enc k.val]) (P := (fun (k : Clo g (Pt X)) a => tp a k.val)) (fun k a h => callP1 (by simp [envL]) (snapD_nr _ a rfl) (snapD_fptr _ _ _ _ rfl)) q k

def t_slices_ContainsFunc_impl_Symbol_impl_Symbol (p_ : Symbol → Option Bool) (s_ : Sl Symbol) : Option Bool :=
  obind (t_slices_IndexFunc_impl_Symbol_impl_Symbol p_ s_) fun c1 =>
  some (decide (0 ≤ c1))

theorem ts_slices_ContainsFunc_impl_Symbol_impl_Symbol (env : Nat → Contract) {K : Type} [Cod K] {g : Nat} {caps : K → List AV} {P : K → Symbol → Option Bool} (hs : ∀ k h, snapD h (AV.fn g (caps k)) = some k) (he_slices_IndexFunc_impl_Symbol_impl_Symbol : env n_slices_IndexFunc_impl_Symbol_impl_Symbol = .pure (C2 (fun c : Int => enc c) (fun (q : Sl Symbol) (k : K) => t_slices_IndexFunc_impl_Symbol_impl_Symbol (P k) q))) (s_ : Sl Symbol) (f_ : K) : Sim (denFn Tryd.prog env n_slices_ContainsFunc_impl_Symbol_impl_Symbol [Sl.enc s_, AV.fn g (caps f_)] []) (t_slices_ContainsFunc_impl_Symbol_impl_Symbol (P f_) s_) fun c p => release p.2 depth p.1 = some ((fun c : Bool => enc c) c) := by
  have O := Hold.nil []
  generalize hB : (⟨[], []⟩ : Base) = B at O
  clear hB
  rw [e_slices_ContainsFunc_impl_Symbol_impl_Symbol]
  unfold t_slices_ContainsFunc_impl_Symbol_impl_Symbol
  refine sim_call2 (t := fun (q : Sl Symbol) (k : K) => t_slices_IndexFunc_impl_Symbol_impl_Symbol (P k) q) he_slices_IndexFunc_impl_Symbol_impl_Symbol (snapD_enc _ _) (hs f_ _) (fun c1 => ?_)
  refine sim_let2 (hand_plain (by rfl) _ _) ?_
  refine sim_let (v := bv (decide (0 ≤ c1))) (aBin_geq _ _) ?_
  exact sim_ret (release_plain (by rfl) _)
theorem tt0_slices_ContainsFunc_impl_Symbol_impl_Symbol {g : Nat} {t : Symbol → Option Bool} (hg : PureOK Tryd.prog g (C1 (fun c : Bool => enc c) t)) : PureOK Tryd.prog n_slices_ContainsFunc_impl_Symbol_impl_Symbol (C2 (fun c : Bool => enc c) (fun (q : Sl Symbol) (k : Clo0 g) => t_slices_ContainsFunc_impl_Symbol_impl_Symbol ((fun _ : Clo0 g => t) k) q)) := pureC2 (Econs (tt0_slices_IndexFunc_impl_Symbol_impl_Symbol hg) E0) mixed hb_slices_ContainsFunc_impl_Symbol_impl_Symbol fun q k => ts_slices_ContainsFunc_impl_Symbol_impl_Symbol _ (caps := fun _ => []) (P := (fun _ : Clo0 g => t)) (fun k h => snapD_clo0 h g) (by simp [envL]) q k
theorem tt1_slices_ContainsFunc_impl_Symbol_impl_Symbol {g : Nat} {X : Type} [Row X] {tp : Symbol → Pt X → Option Bool} (hg : PureOK Tryd.prog g (C2 (fun c : Bool => enc c) tp)) : PureOK Tryd.prog n_slices_ContainsFunc_impl_Symbol_impl_Symbol (C2 (fun c : Bool => enc c) (fun (q : Sl Symbol) (k : Clo g (Pt X)) => t_slices_ContainsFunc_impl_Symbol_impl_Symbol ((fun (k : Clo g (Pt X)) a => tp a k.val) k) q)) := pureC2 (Econs (tt1_slices_IndexFunc_impl_Symbol_impl_Symbol hg) E0) mixed hb_slices_ContainsFunc_impl_Symbol_impl_Symbol fun q k => ts_slices_ContainsFunc_impl_Symbol_impl_Symbol _ (caps := fun k : Clo g (Pt X) => [enc k.val]) (P := (fun (k : Clo g (Pt X)) a => tp a k.val)) (fun k h => snapD_cloE h k) (by simp [envL]) q k

def t_impl_ValidSymbols (list_ : Sl Symbol) : Option Bool :=
  obind (bif decide ((((list_.getD []).length : Nat) : Int) ≤ 8) then (obind (t_slices_ContainsFunc_impl_Symbol_impl_Symbol (fun a => some ((fun s : Symbol => !okSym s) a)) list_) fun c2 => some (!c2)) else some false) fun c3 =>
  some (bif decide ((((list_.getD []).length : Nat) : Int) ≤ 8) then c3 else false)

theorem ts_impl_ValidSymbols (env : Nat → Contract) (he_slices_ContainsFunc_impl_Symbol_impl_Symbol : env n_slices_ContainsFunc_impl_Symbol_impl_Symbol = .pure (C2 (fun c : Bool => enc c) (fun (q : Sl Symbol) (k : Clo0 n_impl_ValidSymbols_1) => t_slices_ContainsFunc_impl_Symbol_impl_Symbol ((fun _ : Clo0 n_impl_ValidSymbols_1 => (fun a => some ((fun s : Symbol => !okSym s) a))) k) q))) (list_ : Sl Symbol) : Sim (denFn Tryd.prog env n_impl_ValidSymbols [Sl.enc list_] []) (t_impl_ValidSymbols list_) fun c p => release p.2 depth p.1 = some ((fun c : Bool => enc c) c) := by
  have O := Hold.nil []
  generalize hB : (⟨[], []⟩ : Base) = B at O
  clear hB
  rw [e_impl_ValidSymbols]
  unfold t_impl_ValidSymbols
  refine sim_let (v := iv (((list_.getD []).length : Nat) : Int)) (Tab.enc [] list_).len ?_
  refine sim_let (v := bv (decide ((((list_.getD []).length : Nat) : Int) ≤ 8))) (aBin_leq _ _) ?_
  refine sim_guardT (e := bv) (fun hb1 => ?_) (fun c3 => ?_)
  · refine sim_call2 (t := fun (q : Sl Symbol) (k : Clo0 n_impl_ValidSymbols_1) => t_slices_ContainsFunc_impl_Symbol_impl_Symbol ((fun _ : Clo0 n_impl_ValidSymbols_1 => (fun a => some ((fun s : Symbol => !okSym s) a))) k) q) he_slices_ContainsFunc_impl_Symbol_impl_Symbol (snapD_enc _ _) (snapD_clo0 _ _) (fun c2 => ?_)
    refine sim_let2 (hand_plain (by rfl) _ _) ?_
    refine sim_let (v := bv (!c2)) (aUn_not _) ?_
    exact sim_ret rfl
  · refine sim_let (v := bv (bif decide ((((list_.getD []).length : Nat) : Int) ≤ 8) then c3 else false)) (pick_b _ _ _) ?_
    exact sim_ret (release_plain (by rfl) _)
theorem tt_impl_ValidSymbols : PureOK Tryd.prog n_impl_ValidSymbols (C1 (fun c : Bool => enc c) t_impl_ValidSymbols) := pureC1 (Econs (tt0_slices_ContainsFunc_impl_Symbol_impl_Symbol (C1_T1 ok_impl_ValidSymbols_1)) E0) mixed hb_impl_ValidSymbols fun list_ => ts_impl_ValidSymbols _ (by simp [envL]) list_

def s0_spec_l01Split (s_ : ByteArray) (by_ : UInt8) : ((Sl ByteArray) × Int × Int) → Option (Sum ((Sl ByteArray) × Int × Int) ((Sl ByteArray) × Int)) := fun (w6, w9, w10) =>
  bif decide (w10 < (s_.size : Int)) then
    obind (getB s_ w10) fun b29 =>
    bif decide (b29 = by_) then
      obind (subB s_ (some w9) (some w10)) fun s31 =>
      obind (appO w6 ([s31] : List ByteArray)) fun _ =>
      some (.inl ((appS w6 ([s31] : List ByteArray)), wr (w10 + 1), wr (w10 + 1)))
    else
      some (.inl (w6, w9, wr (w10 + 1)))
  else
    some (.inr (w6, w9))
def t_spec_l01Split (s_ : ByteArray) (by_ : UInt8) : Option (Sl ByteArray) :=
  obind (loopT (s0_spec_l01Split s_ by_) ((some ([] : List ByteArray)), 0, 0)) fun (q14, q15) =>
  obind (subB s_ (some q15) none) fun s17 =>
  obind (appO q14 ([s17] : List ByteArray)) fun _ =>
  some (appS q14 ([s17] : List ByteArray))

theorem tl0_spec_l01Split (env : Nat → Contract) {B : Base}  (s_ : ByteArray) (by_ : UInt8) (x1 : AV)  {st : (Sl ByteArray) × Int × Int} {tm : TM} {h : Heap} (R : (fun (st : (Sl ByteArray) × Int × Int) tm h7 => match st with | (w6, w9, w10) => ∃ z5, tm = [sv s_, bt by_, und, und, nilS, z5, iv w9, iv w10, x1, AV.top, AV.top, AV.top, AV.top, AV.top, AV.top, AV.top, AV.top, AV.top, AV.top, AV.top, AV.top, AV.top, AV.top, AV.top, AV.top, AV.top, AV.top, AV.top, AV.top, und, und, und, und, und, und] ∧ Hold B h7 [(z5, obS (w6 : Sl ByteArray))]) st tm h) : Sim (loopP hm0_spec_l01Split xm0_spec_l01Split (lb0_spec_l01Split env) tm h) (loopT (s0_spec_l01Split s_ by_) st) (fun (q : (Sl ByteArray) × Int) (r : Res) => match q with | (q14, q15) => ∃ (q16 : Int) (z13 : AV) (h11 : Heap), r = (.exit 0, [sv s_, bt by_, und, und, nilS, z13, iv q15, iv q16, x1, AV.top, AV.top, AV.top, AV.top, AV.top, AV.top, AV.top, AV.top, AV.top, AV.top, AV.top, AV.top, AV.top, AV.top, AV.top, AV.top, AV.top, AV.top, AV.top, AV.top, und, und, und, und, und, und], h11) ∧ Hold B h11 [(z13, obS (q14 : Sl ByteArray))]) := by
  refine loop_sim (Rel := fun (st : (Sl ByteArray) × Int × Int) tm h7 => match st with | (w6, w9, w10) => ∃ z5, tm = [sv s_, bt by_, und, und, nilS, z5, iv w9, iv w10, x1, AV.top, AV.top, AV.top, AV.top, AV.top, AV.top, AV.top, AV.top, AV.top, AV.top, AV.top, AV.top, AV.top, AV.top, AV.top, AV.top, AV.top, AV.top, AV.top, AV.top, und, und, und, und, und, und] ∧ Hold B h7 [(z5, obS (w6 : Sl ByteArray))]) (fun st tm h7 R => ?_) R
  obtain ⟨w6, w9, w10⟩ := st
  obtain ⟨z5, rfl, O8⟩ := R
  rw [e_lb0_spec_l01Split]
  unfold s0_spec_l01Split
  dsimp only
  refine sim_let (v := iv (s_.size : Int)) rfl ?_
  refine sim_let (v := bv (decide (w10 < (s_.size : Int)))) (aBin_lss _ _) ?_
  refine sim_cond (fun c28 => ?_) (fun c28 => ?_)
  · refine sim_getB (fun b29 => ?_)
    refine sim_let (v := bv (decide (b29 = by_))) (cmp_eqY _ _) ?_
    refine sim_cond (fun c30 => ?_) (fun c30 => ?_)
    · refine sim_subB11 (fun s31 => ?_)
      refine sim_build (A := ByteArray) O8 ([s31] : List ByteArray) rfl (by first | rfl | simp [aFillRows, zrows]) rfl (fun x32 h33 O34 => ?_)
      replace O34 : Hold B h33 [(z5, obS (w6 : Sl ByteArray)), (x32, obS ((some ([s31] : List ByteArray)) : Sl ByteArray))] := O34
      refine sim_append (A := ByteArray) (s := w6) O34 0 ([s31] : List ByteArray) rfl (O34.src (A := ByteArray) (s := (some ([s31] : List ByteArray))) 1 rfl) (by decide) (fun x37 h38 O39 => ?_)
      replace O39 : Hold B h38 [(x37, obS ((appS w6 ([s31] : List ByteArray)) : Sl ByteArray)), (x32, obS ((some ([s31] : List ByteArray)) : Sl ByteArray))] := O39
      have O41 : Hold B h38 [(x37, obS ((appS w6 ([s31] : List ByteArray)) : Sl ByteArray))] := O39.sel [0] (by decide) rfl
      refine sim_let (v := iv (wr (w10 + 1))) (aBin_add _ _) ?_
      refine sim_let (v := iv (wr (w10 + 1))) (aBin_add _ _) ?_
      exact sim_ret ⟨rfl, _, rfl, O41⟩
    · refine sim_let (v := iv (wr (w10 + 1))) (aBin_add _ _) ?_
      exact sim_ret ⟨rfl, _, rfl, O8⟩
  · exact sim_ret ⟨nofun, _, _, _, rfl, O8⟩
theorem ts_spec_l01Split (env : Nat → Contract)  (s_ : ByteArray) (by_ : UInt8) : Sim (denFn Tryd.prog env n_spec_l01Split [sv s_, bt by_] []) (t_spec_l01Split s_ by_) fun c p => release p.2 depth p.1 = some ((fun c : (Sl ByteArray) => rS c) c) := by
  have O := Hold.nil []
  generalize hB : (⟨[], []⟩ : Base) = B at O
  clear hB
  rw [e_spec_l01Split]
  unfold t_spec_l01Split
  refine sim_build (A := ByteArray) O ([] : List ByteArray) rfl (by first | rfl | simp [aFillRows, zrows]) rfl (fun x1 h2 O3 => ?_)
  replace O3 : Hold B h2 [(x1, obS ((some ([] : List ByteArray)) : Sl ByteArray))] := O3
  refine sim_bind ((tl0_spec_l01Split env s_ by_ x1) ⟨_, rfl, O3⟩) (fun qq46 r hq => ?_)
  obtain ⟨q14, q15⟩ := qq46
  obtain ⟨q16, z13, h11, rfl, O12⟩ := hq
  rw [e_lk0x0_spec_l01Split]
  refine sim_subB10 (fun s17 => ?_)
  refine sim_build (A := ByteArray) O12 ([s17] : List ByteArray) rfl (by first | rfl | simp [aFillRows, zrows]) rfl (fun x18 h19 O20 => ?_)
  replace O20 : Hold B h19 [(z13, obS (q14 : Sl ByteArray)), (x18, obS ((some ([s17] : List ByteArray)) : Sl ByteArray))] := O20
  refine sim_append (A := ByteArray) (s := q14) O20 0 ([s17] : List ByteArray) rfl (O20.src (A := ByteArray) (s := (some ([s17] : List ByteArray))) 1 rfl) (by decide) (fun x23 h24 O25 => ?_)
  replace O25 : Hold B h24 [(x23, obS ((appS q14 ([s17] : List ByteArray)) : Sl ByteArray)), (x18, obS ((some ([s17] : List ByteArray)) : Sl ByteArray))] := O25
  have O27 : Hold B h24 [(x23, obS ((appS q14 ([s17] : List ByteArray)) : Sl ByteArray))] := O25.sel [0] (by decide) rfl
  exact sim_ret (O27.rel (A := ByteArray) (s := (appS q14 ([s17] : List ByteArray))) 0 rfl)
theorem tt_spec_l01Split : PureOK Tryd.prog n_spec_l01Split (C2 (fun c : (Sl ByteArray) => rS c) t_spec_l01Split) := pureC2 E0 mixed hb_spec_l01Split fun s_ by_ => ts_spec_l01Split _  s_ by_

def s0_spec_l01Number (s5 : ByteArray) : (Int × Int) → Option (Sum (Int × Int) (Sum Int (Int × Bool))) := fun (w11, w12) =>
  bif decide (w12 < (s5.size : Int)) then
    obind (getB s5 w12) fun b31 =>
    obind (some (isDig b31)) fun c32 =>
    bif !c32 then
      some (.inr (.inr (0, false)))
    else
      obind (getB s5 w12) fun b35 =>
      some (.inl (wr ((wr (10 * w11)) + ((byteI ((b35.toNat : Int) - ((48 : UInt8).toNat : Int))).toNat : Int)), wr (w12 + 1)))
  else
    some (.inr (.inl w11))
def s1_spec_l01Number (s_ : ByteArray) : (Int × Int) → Option (Sum (Int × Int) (Sum Int (Int × Bool))) := fun (w45, w46) =>
  bif decide (w46 < (s_.size : Int)) then
    obind (getB s_ w46) fun b65 =>
    obind (some (isDig b65)) fun c66 =>
    bif !c66 then
      some (.inr (.inr (0, false)))
    else
      obind (getB s_ w46) fun b69 =>
      some (.inl (wr ((wr (10 * w45)) + ((byteI ((b69.toNat : Int) - ((48 : UInt8).toNat : Int))).toNat : Int)), wr (w46 + 1)))
  else
    some (.inr (.inl w45))
def t_spec_l01Number (s_ : ByteArray) : Option (Int × Bool) :=
  obind (bif !decide (s_ = (⟨#[]⟩ : ByteArray)) then (obind (getB s_ 0) fun b2 => some (decide ((b2.toNat : Int) = 45))) else some false) fun c3 =>
  bif (bif !decide (s_ = (⟨#[]⟩ : ByteArray)) then c3 else false) then
    obind (subB s_ (some 1) none) fun s5 =>
    obind (bif decide ((s5.size : Int) < 1) then some false else (some (decide (18 < (s5.size : Int))))) fun c7 =>
    bif (bif decide ((s5.size : Int) < 1) then true else c7) then
      some (0, false)
    else
      obind (loopT (s0_spec_l01Number s5) (0, 0)) fun qq39 => match qq39 with
      | (.inl q17) =>
          bif decide ((s5.size : Int) < (s_.size : Int)) then
            obind (t_spec_l01Dec (wr (0 - q17))) fun c20 =>
            bif !decide (c20 = s_) then
              some (0, false)
            else
              some (wr (0 - q17), true)
          else
            obind (t_spec_l01Dec q17) fun c22 =>
            bif !decide (c22 = s_) then
              some (0, false)
            else
              some (q17, true)
      | (.inr (q26, q27)) =>
          some (q26, q27)
  else
    obind (bif decide ((s_.size : Int) < 1) then some false else (some (decide (18 < (s_.size : Int))))) fun c41 =>
    bif (bif decide ((s_.size : Int) < 1) then true else c41) then
      some (0, false)
    else
      obind (loopT (s1_spec_l01Number s_) (0, 0)) fun qq73 => match qq73 with
      | (.inl q51) =>
          bif decide ((s_.size : Int) < (s_.size : Int)) then
            obind (t_spec_l01Dec (wr (0 - q51))) fun c54 =>
            bif !decide (c54 = s_) then
              some (0, false)
            else
              some (wr (0 - q51), true)
          else
            obind (t_spec_l01Dec q51) fun c56 =>
            bif !decide (c56 = s_) then
              some (0, false)
            else
              some (q51, true)
      | (.inr (q60, q61)) =>
          some (q60, q61)

theorem tl0_spec_l01Number (env : Nat → Contract) {B : Base} (he_spec_l01Dec : env n_spec_l01Dec = .pure (C1 (fun c : ByteArray => enc c) t_spec_l01Dec)) (he_spec_l01Digit : env n_spec_l01Digit = .pure (T1 isDig)) (s_ : ByteArray) (c3 : Bool) (s5 : ByteArray) (c7 : Bool)  {st : Int × Int} {tm : TM} {h : Heap} (R : (fun (st : Int × Int) tm h9 => match st with | (w11, w12) => tm = [sv s_, und, AV.top, AV.top, sv s5, iv w11, iv w12, sv s_, sv s_, bv (!decide (s_ = (⟨#[]⟩ : ByteArray))), bv (!decide (s_ = (⟨#[]⟩ : ByteArray))), AV.top, AV.top, cond (!decide (s_ = (⟨#[]⟩ : ByteArray))) (bv c3) und, bv (bif !decide (s_ = (⟨#[]⟩ : ByteArray)) then c3 else false), sv s_, sv s5, sv s5, iv (s5.size : Int), bv (decide ((s5.size : Int) < 1)), bv (decide ((s5.size : Int) < 1)), AV.top, AV.top, cond (decide ((s5.size : Int) < 1)) und (bv c7), bv (bif decide ((s5.size : Int) < 1) then true else c7), AV.top, AV.top, AV.top, AV.top, AV.top, AV.top, AV.top, AV.top, AV.top, AV.top, AV.top, AV.top, AV.top, AV.top, AV.top, AV.top, AV.top, AV.top, AV.top, und, und, und, und, und, und, und, und, und, und, und, und] ∧ Hold B h9 []) st tm h) : Sim (loopP hm0_spec_l01Number xm0_spec_l01Number (lb0_spec_l01Number env) tm h) (loopT (s0_spec_l01Number s5) st) (fun (q : Sum Int (Int × Bool)) (r : Res) => match q with | .inl q17 => ∃ (q18 : Int) (z15 : AV) (z16 : AV) (h13 : Heap), r = (.exit 0, [sv s_, und, z15, z16, sv s5, iv q17, iv q18, sv s_, sv s_, bv (!decide (s_ = (⟨#[]⟩ : ByteArray))), bv (!decide (s_ = (⟨#[]⟩ : ByteArray))), AV.top, AV.top, cond (!decide (s_ = (⟨#[]⟩ : ByteArray))) (bv c3) und, bv (bif !decide (s_ = (⟨#[]⟩ : ByteArray)) then c3 else false), sv s_, sv s5, sv s5, iv (s5.size : Int), bv (decide ((s5.size : Int) < 1)), bv (decide ((s5.size : Int) < 1)), AV.top, AV.top, cond (decide ((s5.size : Int) < 1)) und (bv c7), bv (bif decide ((s5.size : Int) < 1) then true else c7), AV.top, AV.top, AV.top, AV.top, AV.top, AV.top, AV.top, AV.top, AV.top, AV.top, AV.top, AV.top, AV.top, AV.top, AV.top, AV.top, AV.top, AV.top, AV.top, und, und, und, und, und, und, und, und, und, und, und, und], h13) ∧ Hold B h13 [] | .inr (q26, q27) => ∃ (q28 : Int) (q29 : Int) (h24 : Heap), r = (.ret, [sv s_, und, iv q26, bv q27, sv s5, iv q28, iv q29, sv s_, sv s_, bv (!decide (s_ = (⟨#[]⟩ : ByteArray))), bv (!decide (s_ = (⟨#[]⟩ : ByteArray))), AV.top, AV.top, cond (!decide (s_ = (⟨#[]⟩ : ByteArray))) (bv c3) und, bv (bif !decide (s_ = (⟨#[]⟩ : ByteArray)) then c3 else false), sv s_, sv s5, sv s5, iv (s5.size : Int), bv (decide ((s5.size : Int) < 1)), bv (decide ((s5.size : Int) < 1)), AV.top, AV.top, cond (decide ((s5.size : Int) < 1)) und (bv c7), bv (bif decide ((s5.size : Int) < 1) then true else c7), AV.top, AV.top, AV.top, AV.top, AV.top, AV.top, AV.top, AV.top, AV.top, AV.top, AV.top, AV.top, AV.top, AV.top, AV.top, AV.top, AV.top, AV.top, AV.top, und, und, und, und, und, und, und, und, und, und, und, und], h24) ∧ Hold B h24 []) := by
  refine loop_sim (Rel := fun (st : Int × Int) tm h9 => match st with | (w11, w12) => tm = [sv s_, und, AV.top, AV.top, sv s5, iv w11, iv w12, sv s_, sv s_, bv (!decide (s_ = (⟨#[]⟩ : ByteArray))), bv (!decide (s_ = (⟨#[]⟩ : ByteArray))), AV.top, AV.top, cond (!decide (s_ = (⟨#[]⟩ : ByteArray))) (bv c3) und, bv (bif !decide (s_ = (⟨#[]⟩ : ByteArray)) then c3 else false), sv s_, sv s5, sv s5, iv (s5.size : Int), bv (decide ((s5.size : Int) < 1)), bv (decide ((s5.size : Int) < 1)), AV.top, AV.top, cond (decide ((s5.size : Int) < 1)) und (bv c7), bv (bif decide ((s5.size : Int) < 1) then true else c7), AV.top, AV.top, AV.top, AV.top, AV.top, AV.top, AV.top, AV.top, AV.top, AV.top, AV.top, AV.top, AV.top, AV.top, AV.top, AV.top, AV.top, AV.top, AV.top, und, und, und, und, und, und, und, und, und, und, und, und] ∧ Hold B h9 []) (fun st tm h9 R => ?_) R
  obtain ⟨w11, w12⟩ := st
  obtain ⟨rfl, O10⟩ := R
  rw [e_lb0_spec_l01Number]
  unfold s0_spec_l01Number
  dsimp only
  refine sim_let (v := iv (s5.size : Int)) rfl ?_
  refine sim_let (v := bv (decide (w12 < (s5.size : Int)))) (aBin_lss _ _) ?_
  refine sim_cond (fun c30 => ?_) (fun c30 => ?_)
  · refine sim_getB (fun b31 => ?_)
    refine sim_callV1 (t := isDig) he_spec_l01Digit (snapD_byte _ b31) (fun c32 => ?_)
    refine sim_let (v := bv (!c32)) (aUn_not _) ?_
    refine sim_cond (fun c33 => ?_) (fun c33 => ?_)
    · exact sim_ret ⟨nofun, _, _, _, rfl, O10⟩
    · refine sim_let (v := iv (wr (10 * w11))) (aBin_mul _ _) ?_
      refine sim_getB (fun b35 => ?_)
      refine sim_let (v := bt (byteI ((b35.toNat : Int) - ((48 : UInt8).toNat : Int)))) (byte_sub b35 (48 : UInt8)) ?_
      refine sim_let (v := iv ((byteI ((b35.toNat : Int) - ((48 : UInt8).toNat : Int))).toNat : Int)) (conv_byte _) ?_
      refine sim_let (v := iv (wr ((wr (10 * w11)) + ((byteI ((b35.toNat : Int) - ((48 : UInt8).toNat : Int))).toNat : Int)))) (aBin_add _ _) ?_
      refine sim_let (v := iv (wr (w12 + 1))) (aBin_add _ _) ?_
      exact sim_ret ⟨rfl, rfl, O10⟩
  · exact sim_ret ⟨nofun, _, _, _, _, rfl, O10⟩
theorem tl1_spec_l01Number (env : Nat → Contract) {B : Base} (he_spec_l01Dec : env n_spec_l01Dec = .pure (C1 (fun c : ByteArray => enc c) t_spec_l01Dec)) (he_spec_l01Digit : env n_spec_l01Digit = .pure (T1 isDig)) (s_ : ByteArray) (c3 : Bool) (c41 : Bool)  {st : Int × Int} {tm : TM} {h : Heap} (R : (fun (st : Int × Int) tm h43 => match st with | (w45, w46) => tm = [sv s_, und, AV.top, AV.top, sv s_, iv w45, iv w46, sv s_, sv s_, bv (!decide (s_ = (⟨#[]⟩ : ByteArray))), bv (!decide (s_ = (⟨#[]⟩ : ByteArray))), AV.top, AV.top, cond (!decide (s_ = (⟨#[]⟩ : ByteArray))) (bv c3) und, bv (bif !decide (s_ = (⟨#[]⟩ : ByteArray)) then c3 else false), und, und, sv s_, iv (s_.size : Int), bv (decide ((s_.size : Int) < 1)), bv (decide ((s_.size : Int) < 1)), AV.top, AV.top, cond (decide ((s_.size : Int) < 1)) und (bv c41), bv (bif decide ((s_.size : Int) < 1) then true else c41), AV.top, AV.top, AV.top, AV.top, AV.top, AV.top, AV.top, AV.top, AV.top, AV.top, AV.top, AV.top, AV.top, AV.top, AV.top, AV.top, AV.top, AV.top, AV.top, und, und, und, und, und, und, und, und, und, und, und, und] ∧ Hold B h43 []) st tm h) : Sim (loopP hm1_spec_l01Number xm1_spec_l01Number (lb1_spec_l01Number env) tm h) (loopT (s1_spec_l01Number s_) st) (fun (q : Sum Int (Int × Bool)) (r : Res) => match q with | .inl q51 => ∃ (q52 : Int) (z49 : AV) (z50 : AV) (h47 : Heap), r = (.exit 0, [sv s_, und, z49, z50, sv s_, iv q51, iv q52, sv s_, sv s_, bv (!decide (s_ = (⟨#[]⟩ : ByteArray))), bv (!decide (s_ = (⟨#[]⟩ : ByteArray))), AV.top, AV.top, cond (!decide (s_ = (⟨#[]⟩ : ByteArray))) (bv c3) und, bv (bif !decide (s_ = (⟨#[]⟩ : ByteArray)) then c3 else false), und, und, sv s_, iv (s_.size : Int), bv (decide ((s_.size : Int) < 1)), bv (decide ((s_.size : Int) < 1)), AV.top, AV.top, cond (decide ((s_.size : Int) < 1)) und (bv c41), bv (bif decide ((s_.size : Int) < 1) then true else c41), AV.top, AV.top, AV.top, AV.top, AV.top, AV.top, AV.top, AV.top, AV.top, AV.top, AV.top, AV.top, AV.top, AV.top, AV.top, AV.top, AV.top, AV.top, AV.top, und, und, und, und, und, und, und, und, und, und, und, und], h47) ∧ Hold B h47 [] | .inr (q60, q61) => ∃ (q62 : Int) (q63 : Int) (h58 : Heap), r = (.ret, [sv s_, und, iv q60, bv q61, sv s_, iv q62, iv q63, sv s_, sv s_, bv (!decide (s_ = (⟨#[]⟩ : ByteArray))), bv (!decide (s_ = (⟨#[]⟩ : ByteArray))), AV.top, AV.top, cond (!decide (s_ = (⟨#[]⟩ : ByteArray))) (bv c3) und, bv (bif !decide (s_ = (⟨#[]⟩ : ByteArray)) then c3 else false), und, und, sv s_, iv (s_.size : Int), bv (decide ((s_.size : Int) < 1)), bv (decide ((s_.size : Int) < 1)), AV.top, AV.top, cond (decide ((s_.size : Int) < 1)) und (bv c41), bv (bif decide ((s_.size : Int) < 1) then true else c41), AV.top, AV.top, AV.top, AV.top, AV.top, AV.top, AV.top, AV.top, AV.top, AV.top, AV.top, AV.top, AV.top, AV.top, AV.top, AV.top, AV.top, AV.top, AV.top, und, und, und, und, und, und, und, und, und, und, und, und], h58) ∧ Hold B h58 []) := by
  refine loop_sim (Rel := fun (st : Int × Int) tm h43 => match st with | (w45, w46) => tm = [sv s_, und, AV.top, AV.top, sv s_, iv w45, iv w46, sv s_, sv s_, bv (!decide (s_ = (⟨#[]⟩ : ByteArray))), bv (!decide (s_ = (⟨#[]⟩ : ByteArray))), AV.top, AV.top, cond (!decide (s_ = (⟨#[]⟩ : ByteArray))) (bv c3) und, bv (bif !decide (s_ = (⟨#[]⟩ : ByteArray)) then c3 else false), und, und, sv s_, iv (s_.size : Int), bv (decide ((s_.size : Int) < 1)), bv (decide ((s_.size : Int) < 1)), AV.top, AV.top, cond (decide ((s_.size : Int) < 1)) und (bv c41), bv (bif decide ((s_.size : Int) < 1) then true else c41), AV.top, AV.top, AV.top, AV.top, AV.top, AV.top, AV.top, AV.top, AV.top, AV.top, AV.top, AV.top, AV.top, AV.top, AV.top, AV.top, AV.top, AV.top, AV.top, und, und, und, und, und, und, und, und, und, und, und, und] ∧ Hold B h43 []) (fun st tm h43 R => ?_) R
  obtain ⟨w45, w46⟩ := st
  obtain ⟨rfl, O44⟩ := R
  rw [e_lb1_spec_l01Number]
  unfold s1_spec_l01Number
  dsimp only
  refine sim_let (v := iv (s_.size : Int)) rfl ?_
  refine sim_let (v := bv (decide (w46 < (s_.size : Int)))) (aBin_lss _ _) ?_
  refine sim_cond (fun c64 => ?_) (fun c64 => ?_)
  · refine sim_getB (fun b65 => ?_)
    refine sim_callV1 (t := isDig) he_spec_l01Digit (snapD_byte _ b65) (fun c66 => ?_)
    refine sim_let (v := bv (!c66)) (aUn_not _) ?_
    refine sim_cond (fun c67 => ?_) (fun c67 => ?_)
    · exact sim_ret ⟨nofun, _, _, _, rfl, O44⟩
    · refine sim_let (v := iv (wr (10 * w45))) (aBin_mul _ _) ?_
      refine sim_getB (fun b69 => ?_)
      refine sim_let (v := bt (byteI ((b69.toNat : Int) - ((48 : UInt8).toNat : Int)))) (byte_sub b69 (48 : UInt8)) ?_
      refine sim_let (v := iv ((byteI ((b69.toNat : Int) - ((48 : UInt8).toNat : Int))).toNat : Int)) (conv_byte _) ?_
      refine sim_let (v := iv (wr ((wr (10 * w45)) + ((byteI ((b69.toNat : Int) - ((48 : UInt8).toNat : Int))).toNat : Int)))) (aBin_add _ _) ?_
      refine sim_let (v := iv (wr (w46 + 1))) (aBin_add _ _) ?_
      exact sim_ret ⟨rfl, rfl, O44⟩
  · exact sim_ret ⟨nofun, _, _, _, _, rfl, O44⟩
theorem ts_spec_l01Number (env : Nat → Contract) (he_spec_l01Dec : env n_spec_l01Dec = .pure (C1 (fun c : ByteArray => enc c) t_spec_l01Dec)) (he_spec_l01Digit : env n_spec_l01Digit = .pure (T1 isDig)) (s_ : ByteArray) : Sim (denFn Tryd.prog env n_spec_l01Number [sv s_] []) (t_spec_l01Number s_) fun c p => release p.2 depth p.1 = some ((fun c : Int × Bool => AV.tup [enc c.1, enc c.2]) c) := by
  have O := Hold.nil []
  generalize hB : (⟨[], []⟩ : Base) = B at O
  clear hB
  rw [e_spec_l01Number]
  unfold t_spec_l01Number
  refine sim_let (v := bv (!decide (s_ = (⟨#[]⟩ : ByteArray)))) (aCmp_neS _ _) ?_
  refine sim_guardT (e := bv) (fun hb1 => ?_) (fun c3 => ?_)
  · refine sim_getB (fun b2 => ?_)
    refine sim_let (v := bv (decide ((b2.toNat : Int) = 45))) rfl ?_
    exact sim_ret rfl
  · refine sim_let (v := bv (bif !decide (s_ = (⟨#[]⟩ : ByteArray)) then c3 else false)) (pick_b _ _ _) ?_
    refine sim_cond (fun c4 => ?_) (fun c4 => ?_)
    · refine sim_subB10 (fun s5 => ?_)
      refine sim_let (v := iv (s5.size : Int)) rfl ?_
      refine sim_let (v := bv (decide ((s5.size : Int) < 1))) (aBin_lss _ _) ?_
      refine sim_guardF (e := bv) (fun hb6 => ?_) (fun c7 => ?_)
      · refine sim_let (v := iv (s5.size : Int)) rfl ?_
        refine sim_let (v := bv (decide (18 < (s5.size : Int)))) (aBin_gtr _ _) ?_
        exact sim_ret rfl
      · refine sim_let (v := bv (bif decide ((s5.size : Int) < 1) then true else c7)) (pick_b' _ _ _) ?_
        refine sim_cond (fun c8 => ?_) (fun c8 => ?_)
        · exact sim_ret (release_plain (by rfl) _)
        · refine sim_bind ((tl0_spec_l01Number env he_spec_l01Dec he_spec_l01Digit s_ c3 s5 c7) ⟨rfl, O⟩) (fun qq39 r hq => ?_)
          rcases qq39 with q17 | ⟨q26, q27⟩
          · obtain ⟨q18, z15, z16, h13, rfl, O14⟩ := hq
            rw [e_lk0x0_spec_l01Number]
            refine sim_let (v := iv (s5.size : Int)) rfl ?_
            refine sim_let (v := iv (s_.size : Int)) rfl ?_
            refine sim_let (v := bv (decide ((s5.size : Int) < (s_.size : Int)))) (aBin_lss _ _) ?_
            refine sim_cond (fun c19 => ?_) (fun c19 => ?_)
            · refine sim_let (v := iv (wr (0 - q17))) (aUn_neg _) ?_
              refine sim_call1 he_spec_l01Dec (snapD_int _ _) (fun c20 => ?_)
              refine sim_let2 (hand_plain (by rfl) _ _) ?_
              refine sim_let (v := bv (!decide (c20 = s_))) (aCmp_neS _ _) ?_
              refine sim_cond (fun c21 => ?_) (fun c21 => ?_)
              · exact sim_ret (release_plain (by rfl) _)
              · exact sim_ret (release_plain (by rfl) _)
            · refine sim_call1 he_spec_l01Dec (snapD_int _ _) (fun c22 => ?_)
              refine sim_let2 (hand_plain (by rfl) _ _) ?_
              refine sim_let (v := bv (!decide (c22 = s_))) (aCmp_neS _ _) ?_
              refine sim_cond (fun c23 => ?_) (fun c23 => ?_)
              · exact sim_ret (release_plain (by rfl) _)
              · exact sim_ret (release_plain (by rfl) _)
          · obtain ⟨q28, q29, h24, rfl, O25⟩ := hq
            rw [e_lk0r_spec_l01Number]
            exact sim_ret (release_plain (by rfl) _)
    · refine sim_let (v := iv (s_.size : Int)) rfl ?_
      refine sim_let (v := bv (decide ((s_.size : Int) < 1))) (aBin_lss _ _) ?_
      refine sim_guardF (e := bv) (fun hb40 => ?_) (fun c41 => ?_)
      · refine sim_let (v := iv (s_.size : Int)) rfl ?_
        refine sim_let (v := bv (decide (18 < (s_.size : Int)))) (aBin_gtr _ _) ?_
        exact sim_ret rfl
      · refine sim_let (v := bv (bif decide ((s_.size : Int) < 1) then true else c41)) (pick_b' _ _ _) ?_
        refine sim_cond (fun c42 => ?_) (fun c42 => ?_)
        · exact sim_ret (release_plain (by rfl) _)
        · refine sim_bind ((tl1_spec_l01Number env he_spec_l01Dec he_spec_l01Digit s_ c3 c41) ⟨rfl, O⟩) (fun qq73 r hq => ?_)
          rcases qq73 with q51 | ⟨q60, q61⟩
          · obtain ⟨q52, z49, z50, h47, rfl, O48⟩ := hq
            rw [e_lk1x0_spec_l01Number]
            refine sim_let (v := iv (s_.size : Int)) rfl ?_
            refine sim_let (v := iv (s_.size : Int)) rfl ?_
            refine sim_let (v := bv (decide ((s_.size : Int) < (s_.size : Int)))) (aBin_lss _ _) ?_
            refine sim_cond (fun c53 => ?_) (fun c53 => ?_)
            · refine sim_let (v := iv (wr (0 - q51))) (aUn_neg _) ?_
              refine sim_call1 he_spec_l01Dec (snapD_int _ _) (fun c54 => ?_)
              refine sim_let2 (hand_plain (by rfl) _ _) ?_
              refine sim_let (v := bv (!decide (c54 = s_))) (aCmp_neS _ _) ?_
              refine sim_cond (fun c55 => ?_) (fun c55 => ?_)
              · exact sim_ret (release_plain (by rfl) _)
              · exact sim_ret (release_plain (by rfl) _)
            · refine sim_call1 he_spec_l01Dec (snapD_int _ _) (fun c56 => ?_)
              refine sim_let2 (hand_plain (by rfl) _ _) ?_
              refine sim_let (v := bv (!decide (c56 = s_))) (aCmp_neS _ _) ?_
              refine sim_cond (fun c57 => ?_) (fun c57 => ?_)
              · exact sim_ret (release_plain (by rfl) _)
              · exact sim_ret (release_plain (by rfl) _)
          · obtain ⟨q62, q63, h58, rfl, O59⟩ := hq
            rw [e_lk1r_spec_l01Number]
            exact sim_ret (release_plain (by rfl) _)
theorem tt_spec_l01Number : PureOK Tryd.prog n_spec_l01Number (C1 (fun c : Int × Bool => AV.tup [enc c.1, enc c.2]) t_spec_l01Number) := pureC1 (Econs tt_spec_l01Dec (Econs ok_spec_l01Digit E0)) mixed hb_spec_l01Number fun s_ => ts_spec_l01Number _ (by simp [envL]) (by simp [envL]) s_

def s0_laws_markText : (Int × ByteArray) → Option (Sum (Int × ByteArray) ByteArray) := fun (w4, w5) =>
  bif decide (0 < w4) then
    obind (catO (strL ((some ([byteI (wr (48 + (Int.tmod w4 10)))] : List UInt8)).getD [])) w5) fun s16 =>
    some (.inl (wr (Int.tdiv w4 10), s16))
  else
    some (.inr w5)
def t_laws_markText (k_ : Int) : Option ByteArray :=
  bif decide (k_ ≤ 0) then
    some (⟨#[109, 48]⟩ : ByteArray)
  else
    obind (loopT s0_laws_markText (k_, (⟨#[]⟩ : ByteArray))) fun q9 =>
    obind (catO (⟨#[109]⟩ : ByteArray) q9) fun s10 =>
    some s10

theorem tl0_laws_markText (env : Nat → Contract) {B : Base}  (k_ : Int)  {st : Int × ByteArray} {tm : TM} {h : Heap} (R : (fun (st : Int × ByteArray) tm h2 => match st with | (w4, w5) => tm = [iv w4, und, sv (⟨#[]⟩ : ByteArray), sv w5, iv k_, bv (decide (k_ ≤ 0)), AV.top, AV.top, AV.top, AV.top, AV.top, AV.top, AV.top, AV.top, AV.top, AV.top, AV.top, AV.top, und, und] ∧ Hold B h2 []) st tm h) : Sim (loopP hm0_laws_markText xm0_laws_markText (lb0_laws_markText env) tm h) (loopT s0_laws_markText st) (fun (q : ByteArray) (r : Res) => match q with | q9 => ∃ (q8 : Int) (h6 : Heap), r = (.exit 0, [iv q8, und, sv (⟨#[]⟩ : ByteArray), sv q9, iv k_, bv (decide (k_ ≤ 0)), AV.top, AV.top, AV.top, AV.top, AV.top, AV.top, AV.top, AV.top, AV.top, AV.top, AV.top, AV.top, und, und], h6) ∧ Hold B h6 []) := by
  refine loop_sim (Rel := fun (st : Int × ByteArray) tm h2 => match st with | (w4, w5) => tm = [iv w4, und, sv (⟨#[]⟩ : ByteArray), sv w5, iv k_, bv (decide (k_ ≤ 0)), AV.top, AV.top, AV.top, AV.top, AV.top, AV.top, AV.top, AV.top, AV.top, AV.top, AV.top, AV.top, und, und] ∧ Hold B h2 []) (fun st tm h2 R => ?_) R
  obtain ⟨w4, w5⟩ := st
  obtain ⟨rfl, O3⟩ := R
  rw [e_lb0_laws_markText]
  unfold s0_laws_markText
  dsimp only
  refine sim_let (v := bv (decide (0 < w4))) (aBin_gtr _ _) ?_
  refine sim_cond (fun c11 => ?_) (fun c11 => ?_)
  · refine sim_let (v := iv (Int.tmod w4 10)) (aBin_rem _ _ (by decide)) ?_
    refine sim_let (v := iv (wr (48 + (Int.tmod w4 10)))) (aBin_add _ _) ?_
    refine sim_let (v := bt (byteI (wr (48 + (Int.tmod w4 10))))) (conv_u8 _) ?_
    refine sim_build (A := UInt8) O3 ([byteI (wr (48 + (Int.tmod w4 10)))] : List UInt8) rfl (by first | rfl | simp [aFillRows, zrows]) rfl (fun x12 h13 O14 => ?_)
    replace O14 : Hold B h13 [(x12, obS ((some ([byteI (wr (48 + (Int.tmod w4 10)))] : List UInt8)) : Sl UInt8))] := O14
    refine sim_let (v := sv (strL ((some ([byteI (wr (48 + (Int.tmod w4 10)))] : List UInt8)).getD []))) (conv_str (s := (some ([byteI (wr (48 + (Int.tmod w4 10)))] : List UInt8))) (O14.src (A := UInt8) (s := (some ([byteI (wr (48 + (Int.tmod w4 10)))] : List UInt8))) 0 rfl)) ?_
    refine sim_cat (fun s16 => ?_)
    refine sim_let (v := iv (wr (Int.tdiv w4 10))) (aBin_quo _ _ (by decide)) ?_
    have O17 : Hold B h13 [] := O14.sel [] (by decide) rfl
    exact sim_ret ⟨rfl, rfl, O17⟩
  · exact sim_ret ⟨nofun, _, _, rfl, O3⟩
theorem ts_laws_markText (env : Nat → Contract)  (k_ : Int) : Sim (denFn Tryd.prog env n_laws_markText [iv k_] []) (t_laws_markText k_) fun c p => release p.2 depth p.1 = some ((fun c : ByteArray => enc c) c) := by
  have O := Hold.nil []
  generalize hB : (⟨[], []⟩ : Base) = B at O
  clear hB
  rw [e_laws_markText]
  unfold t_laws_markText
  refine sim_let (v := bv (decide (k_ ≤ 0))) (aBin_leq _ _) ?_
  refine sim_cond (fun c1 => ?_) (fun c1 => ?_)
  · exact sim_ret (release_plain (by rfl) _)
  · refine sim_bind ((tl0_laws_markText env k_) ⟨rfl, O⟩) (fun qq20 r hq => ?_)
    revert hq
    revert qq20
    intro q9 hq
    obtain ⟨q8, h6, rfl, O7⟩ := hq
    rw [e_lk0x0_laws_markText]
    refine sim_cat (fun s10 => ?_)
    exact sim_ret (release_plain (by rfl) _)
theorem tt_laws_markText : PureOK Tryd.prog n_laws_markText (C1 (fun c : ByteArray => enc c) t_laws_markText) := pureC1 E0 mixed hb_laws_markText fun k_ => ts_laws_markText _  k_

def s0_spec_l18Read (lines_ : Sl ByteArray) : (Int × (Sl Bigram) × Bool × Int) → Option (Sum (Int × (Sl Bigram) × Bool × Int) (Sum (Int × (Sl Bigram) × Bool) Bool)) := fun (w36, w38, w41, w42) =>
  obind (bif decide (w42 < (((lines_.getD []).length : Nat) : Int)) then (some w41) else some false) fun c74 =>
  bif (bif decide (w42 < (((lines_.getD []).length : Nat) : Int)) then c74 else false) then
    obind (getI (lines_.getD []) w42) fun a76 =>
    obind (t_spec_l01Split a76 (32 : UInt8)) fun c80 =>
    obind (bif !decide ((((c80.getD []).length : Nat) : Int) = 3) then some false else (obind (getI (c80.getD []) 0) fun a86 => some (decide (a86 = (⟨#[]⟩ : ByteArray))))) fun c90 =>
    bif (bif !decide ((((c80.getD []).length : Nat) : Int) = 3) then true else c90) then
      some (.inr (.inr false))
    else
      obind (getI (c80.getD []) 2) fun a95 =>
      obind (t_spec_l01Number a95) fun c99 =>
      obind (getI (c80.getD []) 0) fun a100 =>
      bif decide (a100 = (⟨#[45]⟩ : ByteArray)) then
        obind (getI (c80.getD []) 1) fun a105 =>
        obind (appO w38 ([(⟨(⟨#[]⟩ : ByteArray), a105, c99.1⟩ : Bigram)] : List Bigram)) fun _ =>
        some (.inl (w36, (appS w38 ([(⟨(⟨#[]⟩ : ByteArray), a105, c99.1⟩ : Bigram)] : List Bigram)), c99.2, wr (w42 + 1)))
      else
        obind (getI (c80.getD []) 1) fun a122 =>
        obind (appO w38 ([(⟨a100, a122, c99.1⟩ : Bigram)] : List Bigram)) fun _ =>
        some (.inl (w36, (appS w38 ([(⟨a100, a122, c99.1⟩ : Bigram)] : List Bigram)), c99.2, wr (w42 + 1)))
  else
    some (.inr (.inl (w36, w38, w41)))
def t_spec_l18Read (lines_ : Sl ByteArray) : Option (Model × Bool) :=
  obind (getI (lines_.getD []) 0) fun a5 =>
  obind (t_spec_l01Split a5 (32 : UInt8)) fun c9 =>
  obind (bif !decide ((((c9.getD []).length : Nat) : Int) = 2) then some false else (obind (getI (c9.getD []) 0) fun a15 => some (!decide (a15 = (⟨#[100, 101, 102, 97, 117, 108, 116]⟩ : ByteArray))))) fun c19 =>
  bif (bif !decide ((((c9.getD []).length : Nat) : Int) = 2) then true else c19) then
    some ((⟨0, (none : Sl Bigram)⟩ : Model), false)
  else
    obind (getI (c9.getD []) 1) fun a23 =>
    obind (t_spec_l01Number a23) fun c27 =>
    obind (loopT (s0_spec_l18Read lines_) (c27.1, (none : Sl Bigram), c27.2, 1)) fun qq141 => match qq141 with
    | (.inl (q45, q47, q50)) =>
        obind (bif q50 then (obind (t_spec_l18Ok (⟨q45, q47⟩ : Model)) fun c56 => some c56) else some false) fun c57 =>
        some ((⟨q45, q47⟩ : Model), (bif q50 then c57 else false))
    | (.inr q66) =>
        some ((⟨0, (none : Sl Bigram)⟩ : Model), q66)

theorem tl0_spec_l18Read (env : Nat → Contract) {B : Base} (he_spec_l01Number : env n_spec_l01Number = .pure (C1 (fun c : Int × Bool => AV.tup [enc c.1, enc c.2]) t_spec_l01Number)) (he_spec_l01Split : env n_spec_l01Split = .pure (C2 (fun c : (Sl ByteArray) => rS c) t_spec_l01Split)) (he_spec_l18Ok : env n_spec_l18Ok = .pure (C1 (fun c : Bool => enc c) tp_spec_l18Ok)) (lines_ : Sl ByteArray) (o1 : Nat) (a5 : ByteArray) (m6 : Nat) (c9 : (Sl ByteArray)) (x11 : AV) (c19 : Bool) (a23 : ByteArray) (m24 : Nat) (c27 : Int × Bool) (o28 : Nat)  {st : Int × (Sl Bigram) × Bool × Int} {tm : TM} {h : Heap} (R : (fun (st : Int × (Sl Bigram) × Bool × Int) tm h39 => match st with | (w36, w38, w41, w42) => ∃ z37, tm = ((Sl.enc lines_) :: und :: (AV.ptr o1 1 0 0) :: AV.top :: AV.top :: (iv c27.1) :: (bv w41) :: (AV.ptr o28 1 0 0) :: (iv w42) :: AV.top :: AV.top :: AV.top :: (Sl.enc lines_) :: (elp (Sl.enc lines_) m6 0) :: (sv a5) :: x11 :: x11 :: (iv (((c9.getD []).length : Nat) : Int)) :: (bv (!decide ((((c9.getD []).length : Nat) : Int) = 2))) :: (bv (!decide ((((c9.getD []).length : Nat) : Int) = 2))) :: AV.top :: AV.top :: AV.top :: (cond (!decide ((((c9.getD []).length : Nat) : Int) = 2)) und (bv c19)) :: (bv (bif !decide ((((c9.getD []).length : Nat) : Int) = 2) then true else c19)) :: und :: (AV.tup [iv c27.1, bv c27.2]) :: x11 :: (elp x11 m24 0) :: (sv a23) :: (AV.tup [iv c27.1, bv c27.2]) :: (iv c27.1) :: (bv c27.2) :: (iv c27.1) :: (AV.agg [iv c27.1, nilS]) :: AV.top :: AV.top :: AV.top :: AV.top :: AV.top :: AV.top :: AV.top :: AV.top :: AV.top :: AV.top :: AV.top :: AV.top :: AV.top :: AV.top :: AV.top :: AV.top :: AV.top :: AV.top :: AV.top :: AV.top :: AV.top :: AV.top :: AV.top :: AV.top :: AV.top :: AV.top :: AV.top :: AV.top :: AV.top :: AV.top :: AV.top :: AV.top :: AV.top :: AV.top :: AV.top :: AV.top :: AV.top :: AV.top :: AV.top :: AV.top :: AV.top :: AV.top :: AV.top :: AV.top :: AV.top :: AV.top :: AV.top :: AV.top :: und :: und :: und :: und :: und :: []) ∧ Hold B h39 [(AV.ptr o1 1 0 0, .pt 2 [iv 0, nilS]), (x11, obS (c9 : Sl ByteArray)), (AV.ptr o28 1 0 0, .pt 2 [iv w36, z37]), (z37, obS (w38 : Sl Bigram))]) st tm h) : Sim (loopP hm0_spec_l18Read xm0_spec_l18Read (lb0_spec_l18Read env) tm h) (loopT (s0_spec_l18Read lines_) st) (fun (q : Sum (Int × (Sl Bigram) × Bool) Bool) (r : Res) => match q with | .inl (q45, q47, q50) => ∃ (q51 : Int) (z46 : AV) (z48 : AV) (z49 : AV) (z52 : AV) (z53 : AV) (z54 : AV) (h43 : Heap), r = (.exit 0, ((Sl.enc lines_) :: und :: (AV.ptr o1 1 0 0) :: z48 :: z49 :: (iv c27.1) :: (bv q50) :: (AV.ptr o28 1 0 0) :: (iv q51) :: z52 :: z53 :: z54 :: (Sl.enc lines_) :: (elp (Sl.enc lines_) m6 0) :: (sv a5) :: x11 :: x11 :: (iv (((c9.getD []).length : Nat) : Int)) :: (bv (!decide ((((c9.getD []).length : Nat) : Int) = 2))) :: (bv (!decide ((((c9.getD []).length : Nat) : Int) = 2))) :: AV.top :: AV.top :: AV.top :: (cond (!decide ((((c9.getD []).length : Nat) : Int) = 2)) und (bv c19)) :: (bv (bif !decide ((((c9.getD []).length : Nat) : Int) = 2) then true else c19)) :: und :: (AV.tup [iv c27.1, bv c27.2]) :: x11 :: (elp x11 m24 0) :: (sv a23) :: (AV.tup [iv c27.1, bv c27.2]) :: (iv c27.1) :: (bv c27.2) :: (iv c27.1) :: (AV.agg [iv c27.1, nilS]) :: AV.top :: AV.top :: AV.top :: AV.top :: AV.top :: AV.top :: AV.top :: AV.top :: AV.top :: AV.top :: AV.top :: AV.top :: AV.top :: AV.top :: AV.top :: AV.top :: AV.top :: AV.top :: AV.top :: AV.top :: AV.top :: AV.top :: AV.top :: AV.top :: AV.top :: AV.top :: AV.top :: AV.top :: AV.top :: AV.top :: AV.top :: AV.top :: AV.top :: AV.top :: AV.top :: AV.top :: AV.top :: AV.top :: AV.top :: AV.top :: AV.top :: AV.top :: AV.top :: AV.top :: AV.top :: AV.top :: AV.top :: AV.top :: und :: und :: und :: und :: und :: []), h43) ∧ Hold B h43 [(AV.ptr o1 1 0 0, .pt 2 [iv 0, nilS]), (x11, obS (c9 : Sl ByteArray)), (AV.ptr o28 1 0 0, .pt 2 [iv q45, z46]), (z46, obS (q47 : Sl Bigram))] | .inr q66 => ∃ (q63 : Int) (q65 : Sl Bigram) (q68 : Bool) (q69 : Int) (z64 : AV) (z67 : AV) (z70 : AV) (z71 : AV) (z72 : AV) (h61 : Heap), r = (.ret, ((Sl.enc lines_) :: und :: (AV.ptr o1 1 0 0) :: (bv q66) :: z67 :: (iv c27.1) :: (bv q68) :: (AV.ptr o28 1 0 0) :: (iv q69) :: z70 :: z71 :: z72 :: (Sl.enc lines_) :: (elp (Sl.enc lines_) m6 0) :: (sv a5) :: x11 :: x11 :: (iv (((c9.getD []).length : Nat) : Int)) :: (bv (!decide ((((c9.getD []).length : Nat) : Int) = 2))) :: (bv (!decide ((((c9.getD []).length : Nat) : Int) = 2))) :: AV.top :: AV.top :: AV.top :: (cond (!decide ((((c9.getD []).length : Nat) : Int) = 2)) und (bv c19)) :: (bv (bif !decide ((((c9.getD []).length : Nat) : Int) = 2) then true else c19)) :: und :: (AV.tup [iv c27.1, bv c27.2]) :: x11 :: (elp x11 m24 0) :: (sv a23) :: (AV.tup [iv c27.1, bv c27.2]) :: (iv c27.1) :: (bv c27.2) :: (iv c27.1) :: (AV.agg [iv c27.1, nilS]) :: AV.top :: AV.top :: AV.top :: AV.top :: AV.top :: AV.top :: AV.top :: AV.top :: AV.top :: AV.top :: AV.top :: AV.top :: AV.top :: AV.top :: AV.top :: AV.top :: AV.top :: AV.top :: AV.top :: AV.top :: AV.top :: AV.top :: AV.top :: AV.top :: AV.top :: AV.top :: AV.top :: AV.top :: AV.top :: AV.top :: AV.top :: AV.top :: AV.top :: AV.top :: AV.top :: AV.top :: AV.top :: AV.top :: AV.top :: AV.top :: AV.top :: AV.top :: AV.top :: AV.top :: AV.top :: AV.top :: AV.top :: AV.top :: und :: und :: und :: und :: und :: []), h61) ∧ Hold B h61 [(AV.ptr o1 1 0 0, .pt 2 [iv 0, nilS]), (x11, obS (c9 : Sl ByteArray)), (AV.ptr o28 1 0 0, .pt 2 [iv q63, z64]), (z64, obS (q65 : Sl Bigram))]) := by
  refine loop_sim (Rel := fun (st : Int × (Sl Bigram) × Bool × Int) tm h39 => match st with | (w36, w38, w41, w42) => ∃ z37, tm = ((Sl.enc lines_) :: und :: (AV.ptr o1 1 0 0) :: AV.top :: AV.top :: (iv c27.1) :: (bv w41) :: (AV.ptr o28 1 0 0) :: (iv w42) :: AV.top :: AV.top :: AV.top :: (Sl.enc lines_) :: (elp (Sl.enc lines_) m6 0) :: (sv a5) :: x11 :: x11 :: (iv (((c9.getD []).length : Nat) : Int)) :: (bv (!decide ((((c9.getD []).length : Nat) : Int) = 2))) :: (bv (!decide ((((c9.getD []).length : Nat) : Int) = 2))) :: AV.top :: AV.top :: AV.top :: (cond (!decide ((((c9.getD []).length : Nat) : Int) = 2)) und (bv c19)) :: (bv (bif !decide ((((c9.getD []).length : Nat) : Int) = 2) then true else c19)) :: und :: (AV.tup [iv c27.1, bv c27.2]) :: x11 :: (elp x11 m24 0) :: (sv a23) :: (AV.tup [iv c27.1, bv c27.2]) :: (iv c27.1) :: (bv c27.2) :: (iv c27.1) :: (AV.agg [iv c27.1, nilS]) :: AV.top :: AV.top :: AV.top :: AV.top :: AV.top :: AV.top :: AV.top :: AV.top :: AV.top :: AV.top :: AV.top :: AV.top :: AV.top :: AV.top :: AV.top :: AV.top :: AV.top :: AV.top :: AV.top :: AV.top :: AV.top :: AV.top :: AV.top :: AV.top :: AV.top :: AV.top :: AV.top :: AV.top :: AV.top :: AV.top :: AV.top :: AV.top :: AV.top :: AV.top :: AV.top :: AV.top :: AV.top :: AV.top :: AV.top :: AV.top :: AV.top :: AV.top :: AV.top :: AV.top :: AV.top :: AV.top :: AV.top :: AV.top :: und :: und :: und :: und :: und :: []) ∧ Hold B h39 [(AV.ptr o1 1 0 0, .pt 2 [iv 0, nilS]), (x11, obS (c9 : Sl ByteArray)), (AV.ptr o28 1 0 0, .pt 2 [iv w36, z37]), (z37, obS (w38 : Sl Bigram))]) (fun st tm h39 R => ?_) R
  obtain ⟨w36, w38, w41, w42⟩ := st
  obtain ⟨z37, rfl, O40⟩ := R
  rw [e_lb0_spec_l18Read]
  unfold s0_spec_l18Read
  dsimp only
  refine sim_let (v := iv (((lines_.getD []).length : Nat) : Int)) (Tab.enc h39 lines_).len ?_
  refine sim_let (v := bv (decide (w42 < (((lines_.getD []).length : Nat) : Int)))) (aBin_lss _ _) ?_
  refine sim_guardT (e := bv) (fun hb73 => ?_) (fun c74 => ?_)
  · exact sim_ret rfl
  · refine sim_let (v := bv (bif decide (w42 < (((lines_.getD []).length : Nat) : Int)) then c74 else false)) (pick_b _ _ _) ?_
    refine sim_cond (fun c75 => ?_) (fun c75 => ?_)
    · refine sim_get (Tab.enc h39 lines_) (fun m77 a76 hi78 hm79 => ?_)
      refine sim_let (v := sv a76) ((Tab.enc h39 lines_).ld hm79 false 1 0) ?_
      refine sim_call2 he_spec_l01Split (snapD_str _ _) (snapD_byte _ (32 : UInt8)) (fun c80 => ?_)
      refine sim_hand (A := ByteArray) O40 (fun x82 h83 O84 => ?_)
      replace O84 : Hold B h83 [(AV.ptr o1 1 0 0, .pt 2 [iv 0, nilS]), (x11, obS (c9 : Sl ByteArray)), (AV.ptr o28 1 0 0, .pt 2 [iv w36, z37]), (z37, obS (w38 : Sl Bigram)), (x82, obS (c80 : Sl ByteArray))] := O84
      refine sim_let (v := iv (((c80.getD []).length : Nat) : Int)) (O84.tab (A := ByteArray) (s := c80) 4 rfl).len ?_
      refine sim_let (v := bv (!decide ((((c80.getD []).length : Nat) : Int) = 3))) (aCmp_ne _ _) ?_
      refine sim_guardF (e := bv) (fun hb85 => ?_) (fun c90 => ?_)
      · refine sim_get (O84.tab (A := ByteArray) (s := c80) 4 rfl) (fun m87 a86 hi88 hm89 => ?_)
        refine sim_let (v := sv a86) ((O84.tab (A := ByteArray) (s := c80) 4 rfl).ld hm89 false 1 0) ?_
        refine sim_let (v := bv (decide (a86 = (⟨#[]⟩ : ByteArray)))) (aCmp_eqS _ _) ?_
        exact sim_ret rfl
      · refine sim_let (v := bv (bif !decide ((((c80.getD []).length : Nat) : Int) = 3) then true else c90)) (pick_b' _ _ _) ?_
        refine sim_cond (fun c91 => ?_) (fun c91 => ?_)
        · refine sim_let (v := AV.agg [iv 0, nilS]) (by first | rfl | simp [aBuild, aFill, splice]) ?_
          refine sim_store O84 0 (cs' := [iv 0, nilS]) rfl (by first | rfl | simp) (by simp) (by first | rfl | simp) (by first | rfl | simp [splice]) (fun h92 O93 => ?_)
          replace O93 : Hold B h92 [(AV.ptr o1 1 0 0, .pt 2 [iv 0, nilS]), (x11, obS (c9 : Sl ByteArray)), (AV.ptr o28 1 0 0, .pt 2 [iv w36, z37]), (z37, obS (w38 : Sl Bigram)), (x82, obS (c80 : Sl ByteArray))] := O93
          have O94 : Hold B h92 [(AV.ptr o1 1 0 0, .pt 2 [iv 0, nilS]), (x11, obS (c9 : Sl ByteArray)), (AV.ptr o28 1 0 0, .pt 2 [iv w36, z37]), (z37, obS (w38 : Sl Bigram))] := O93.sel [0, 1, 2, 3] (by decide) rfl
          exact sim_ret ⟨nofun, _, _, _, _, _, _, _, _, _, _, rfl, O94⟩
        · refine sim_get (O84.tab (A := ByteArray) (s := c80) 4 rfl) (fun m96 a95 hi97 hm98 => ?_)
          refine sim_let (v := sv a95) ((O84.tab (A := ByteArray) (s := c80) 4 rfl).ld hm98 false 1 0) ?_
          refine sim_call1 he_spec_l01Number (snapD_str _ _) (fun c99 => ?_)
          refine sim_let2 (hand_plain (by rfl) _ _) ?_
          refine sim_let (v := iv c99.1) rfl ?_
          refine sim_let (v := bv c99.2) rfl ?_
          refine sim_get (O84.tab (A := ByteArray) (s := c80) 4 rfl) (fun m101 a100 hi102 hm103 => ?_)
          refine sim_let (v := sv a100) ((O84.tab (A := ByteArray) (s := c80) 4 rfl).ld hm103 false 1 0) ?_
          refine sim_let (v := bv (decide (a100 = (⟨#[45]⟩ : ByteArray)))) (aCmp_eqS _ _) ?_
          refine sim_cond (fun c104 => ?_) (fun c104 => ?_)
          · refine sim_let (v := AV.ptr o28 1 0 1) rfl ?_
            refine sim_let (v := z37) (O84.ld 2 rfl false 1 1) ?_
            refine sim_get (O84.tab (A := ByteArray) (s := c80) 4 rfl) (fun m106 a105 hi107 hm108 => ?_)
            refine sim_let (v := sv a105) ((O84.tab (A := ByteArray) (s := c80) 4 rfl).ld hm108 false 1 0) ?_
            refine sim_let (v := AV.agg [sv (⟨#[]⟩ : ByteArray), sv a105, iv c99.1]) (by first | rfl | simp [aBuild, aFill, splice]) ?_
            refine sim_build (A := Bigram) O84 ([(⟨(⟨#[]⟩ : ByteArray), a105, c99.1⟩ : Bigram)] : List Bigram) rfl (by first | rfl | simp [aFillRows, zrows]) rfl (fun x109 h110 O111 => ?_)
            replace O111 : Hold B h110 [(AV.ptr o1 1 0 0, .pt 2 [iv 0, nilS]), (x11, obS (c9 : Sl ByteArray)), (AV.ptr o28 1 0 0, .pt 2 [iv w36, z37]), (z37, obS (w38 : Sl Bigram)), (x82, obS (c80 : Sl ByteArray)), (x109, obS ((some ([(⟨(⟨#[]⟩ : ByteArray), a105, c99.1⟩ : Bigram)] : List Bigram)) : Sl Bigram))] := O111
            refine sim_append (A := Bigram) (s := w38) O111 3 ([(⟨(⟨#[]⟩ : ByteArray), a105, c99.1⟩ : Bigram)] : List Bigram) rfl (O111.src (A := Bigram) (s := (some ([(⟨(⟨#[]⟩ : ByteArray), a105, c99.1⟩ : Bigram)] : List Bigram))) 5 rfl) (by decide) (fun x114 h115 O116 => ?_)
            replace O116 : Hold B h115 [(AV.ptr o1 1 0 0, .pt 2 [iv 0, nilS]), (x11, obS (c9 : Sl ByteArray)), (AV.ptr o28 1 0 0, .pt 2 [iv w36, z37]), (x114, obS ((appS w38 ([(⟨(⟨#[]⟩ : ByteArray), a105, c99.1⟩ : Bigram)] : List Bigram)) : Sl Bigram)), (x82, obS (c80 : Sl ByteArray)), (x109, obS ((some ([(⟨(⟨#[]⟩ : ByteArray), a105, c99.1⟩ : Bigram)] : List Bigram)) : Sl Bigram))] := O116
            have O118 : Hold B h115 [(AV.ptr o1 1 0 0, .pt 2 [iv 0, nilS]), (x11, obS (c9 : Sl ByteArray)), (AV.ptr o28 1 0 0, .pt 2 [iv w36, z37]), (x114, obS ((appS w38 ([(⟨(⟨#[]⟩ : ByteArray), a105, c99.1⟩ : Bigram)] : List Bigram)) : Sl Bigram)), (x82, obS (c80 : Sl ByteArray))] := O116.sel [0, 1, 2, 3, 4] (by decide) rfl
            refine sim_let (v := AV.ptr o28 1 0 1) rfl ?_
            refine sim_store O118 2 (cs' := [iv w36, x114]) rfl (by first | rfl | simp [(O118.one (A := Bigram) (s := (appS w38 ([(⟨(⟨#[]⟩ : ByteArray), a105, c99.1⟩ : Bigram)] : List Bigram))) 3 rfl).1, (O118.one (A := Bigram) (s := (appS w38 ([(⟨(⟨#[]⟩ : ByteArray), a105, c99.1⟩ : Bigram)] : List Bigram))) 3 rfl).2]) (by simp) (by first | rfl | simp [(O118.one (A := Bigram) (s := (appS w38 ([(⟨(⟨#[]⟩ : ByteArray), a105, c99.1⟩ : Bigram)] : List Bigram))) 3 rfl).1, (O118.one (A := Bigram) (s := (appS w38 ([(⟨(⟨#[]⟩ : ByteArray), a105, c99.1⟩ : Bigram)] : List Bigram))) 3 rfl).2]) (by first | rfl | simp [splice, (O118.one (A := Bigram) (s := (appS w38 ([(⟨(⟨#[]⟩ : ByteArray), a105, c99.1⟩ : Bigram)] : List Bigram))) 3 rfl).1, (O118.one (A := Bigram) (s := (appS w38 ([(⟨(⟨#[]⟩ : ByteArray), a105, c99.1⟩ : Bigram)] : List Bigram))) 3 rfl).2]) (fun h119 O120 => ?_)
            replace O120 : Hold B h119 [(AV.ptr o1 1 0 0, .pt 2 [iv 0, nilS]), (x11, obS (c9 : Sl ByteArray)), (AV.ptr o28 1 0 0, .pt 2 [iv w36, x114]), (x114, obS ((appS w38 ([(⟨(⟨#[]⟩ : ByteArray), a105, c99.1⟩ : Bigram)] : List Bigram)) : Sl Bigram)), (x82, obS (c80 : Sl ByteArray))] := O120
            refine sim_let (v := iv (wr (w42 + 1))) (aBin_add _ _) ?_
            have O121 : Hold B h119 [(AV.ptr o1 1 0 0, .pt 2 [iv 0, nilS]), (x11, obS (c9 : Sl ByteArray)), (AV.ptr o28 1 0 0, .pt 2 [iv w36, x114]), (x114, obS ((appS w38 ([(⟨(⟨#[]⟩ : ByteArray), a105, c99.1⟩ : Bigram)] : List Bigram)) : Sl Bigram))] := O120.sel [0, 1, 2, 3] (by decide) rfl
            exact sim_ret ⟨rfl, _, rfl, O121⟩
          · refine sim_let (v := AV.ptr o28 1 0 1) rfl ?_
            refine sim_let (v := z37) (O84.ld 2 rfl false 1 1) ?_
            refine sim_get (O84.tab (A := ByteArray) (s := c80) 4 rfl) (fun m123 a122 hi124 hm125 => ?_)
            refine sim_let (v := sv a122) ((O84.tab (A := ByteArray) (s := c80) 4 rfl).ld hm125 false 1 0) ?_
            refine sim_let (v := AV.agg [sv a100, sv a122, iv c99.1]) (by first | rfl | simp [aBuild, aFill, splice]) ?_
            refine sim_build (A := Bigram) O84 ([(⟨a100, a122, c99.1⟩ : Bigram)] : List Bigram) rfl (by first | rfl | simp [aFillRows, zrows]) rfl (fun x126 h127 O128 => ?_)
            replace O128 : Hold B h127 [(AV.ptr o1 1 0 0, .pt 2 [iv 0, nilS]), (x11, obS (c9 : Sl ByteArray)), (AV.ptr o28 1 0 0, .pt 2 [iv w36, z37]), (z37, obS (w38 : Sl Bigram)), (x82, obS (c80 : Sl ByteArray)), (x126, obS ((some ([(⟨a100, a122, c99.1⟩ : Bigram)] : List Bigram)) : Sl Bigram))] := O128
            refine sim_append (A := Bigram) (s := w38) O128 3 ([(⟨a100, a122, c99.1⟩ : Bigram)] : List Bigram) rfl (O128.src (A := Bigram) (s := (some ([(⟨a100, a122, c99.1⟩ : Bigram)] : List Bigram))) 5 rfl) (by decide) (fun x131 h132 O133 => ?_)
            replace O133 : Hold B h132 [(AV.ptr o1 1 0 0, .pt 2 [iv 0, nilS]), (x11, obS (c9 : Sl ByteArray)), (AV.ptr o28 1 0 0, .pt 2 [iv w36, z37]), (x131, obS ((appS w38 ([(⟨a100, a122, c99.1⟩ : Bigram)] : List Bigram)) : Sl Bigram)), (x82, obS (c80 : Sl ByteArray)), (x126, obS ((some ([(⟨a100, a122, c99.1⟩ : Bigram)] : List Bigram)) : Sl Bigram))] := O133
            have O135 : Hold B h132 [(AV.ptr o1 1 0 0, .pt 2 [iv 0, nilS]), (x11, obS (c9 : Sl ByteArray)), (AV.ptr o28 1 0 0, .pt 2 [iv w36, z37]), (x131, obS ((appS w38 ([(⟨a100, a122, c99.1⟩ : Bigram)] : List Bigram)) : Sl Bigram)), (x82, obS (c80 : Sl ByteArray))] := O133.sel [0, 1, 2, 3, 4] (by decide) rfl
            refine sim_let (v := AV.ptr o28 1 0 1) rfl ?_
            refine sim_store O135 2 (cs' := [iv w36, x131]) rfl (by first | rfl | simp [(O135.one (A := Bigram) (s := (appS w38 ([(⟨a100, a122, c99.1⟩ : Bigram)] : List Bigram))) 3 rfl).1, (O135.one (A := Bigram) (s := (appS w38 ([(⟨a100, a122, c99.1⟩ : Bigram)] : List Bigram))) 3 rfl).2]) (by simp) (by first | rfl | simp [(O135.one (A := Bigram) (s := (appS w38 ([(⟨a100, a122, c99.1⟩ : Bigram)] : List Bigram))) 3 rfl).1, (O135.one (A := Bigram) (s := (appS w38 ([(⟨a100, a122, c99.1⟩ : Bigram)] : List Bigram))) 3 rfl).2]) (by first | rfl | simp [splice, (O135.one (A := Bigram) (s := (appS w38 ([(⟨a100, a122, c99.1⟩ : Bigram)] : List Bigram))) 3 rfl).1, (O135.one (A := Bigram) (s := (appS w38 ([(⟨a100, a122, c99.1⟩ : Bigram)] : List Bigram))) 3 rfl).2]) (fun h136 O137 => ?_)
            replace O137 : Hold B h136 [(AV.ptr o1 1 0 0, .pt 2 [iv 0, nilS]), (x11, obS (c9 : Sl ByteArray)), (AV.ptr o28 1 0 0, .pt 2 [iv w36, x131]), (x131, obS ((appS w38 ([(⟨a100, a122, c99.1⟩ : Bigram)] : List Bigram)) : Sl Bigram)), (x82, obS (c80 : Sl ByteArray))] := O137
            refine sim_let (v := iv (wr (w42 + 1))) (aBin_add _ _) ?_
            have O138 : Hold B h136 [(AV.ptr o1 1 0 0, .pt 2 [iv 0, nilS]), (x11, obS (c9 : Sl ByteArray)), (AV.ptr o28 1 0 0, .pt 2 [iv w36, x131]), (x131, obS ((appS w38 ([(⟨a100, a122, c99.1⟩ : Bigram)] : List Bigram)) : Sl Bigram))] := O137.sel [0, 1, 2, 3] (by decide) rfl
            exact sim_ret ⟨rfl, _, rfl, O138⟩
    · exact sim_ret ⟨nofun, _, _, _, _, _, _, _, _, rfl, O40⟩
theorem ts_spec_l18Read (env : Nat → Contract) (he_spec_l01Number : env n_spec_l01Number = .pure (C1 (fun c : Int × Bool => AV.tup [enc c.1, enc c.2]) t_spec_l01Number)) (he_spec_l01Split : env n_spec_l01Split = .pure (C2 (fun c : (Sl ByteArray) => rS c) t_spec_l01Split)) (he_spec_l18Ok : env n_spec_l18Ok = .pure (C1 (fun c : Bool => enc c) tp_spec_l18Ok)) (lines_ : Sl ByteArray) : Sim (denFn Tryd.prog env n_spec_l18Read [Sl.enc lines_] []) (t_spec_l18Read lines_) fun c p => release p.2 depth p.1 = some ((fun c : Model × Bool => AV.tup [AV.agg [iv c.1.default, rS c.1.bigrams], enc c.2]) c) := by
  have O := Hold.nil []
  generalize hB : (⟨[], []⟩ : Base) = B at O
  clear hB
  rw [e_spec_l18Read]
  unfold t_spec_l18Read
  refine sim_box O (cs := [iv 0, nilS]) (by first | rfl | simp) (fun o1 h2 O3 => ?_)
  replace O3 : Hold B h2 [(AV.ptr o1 1 0 0, .pt 2 [iv 0, nilS])] := O3
  refine sim_get (Tab.enc h2 lines_) (fun m6 a5 hi7 hm8 => ?_)
  refine sim_let (v := sv a5) ((Tab.enc h2 lines_).ld hm8 false 1 0) ?_
  refine sim_call2 he_spec_l01Split (snapD_str _ _) (snapD_byte _ (32 : UInt8)) (fun c9 => ?_)
  refine sim_hand (A := ByteArray) O3 (fun x11 h12 O13 => ?_)
  replace O13 : Hold B h12 [(AV.ptr o1 1 0 0, .pt 2 [iv 0, nilS]), (x11, obS (c9 : Sl ByteArray))] := O13
  refine sim_let (v := iv (((c9.getD []).length : Nat) : Int)) (O13.tab (A := ByteArray) (s := c9) 1 rfl).len ?_
  refine sim_let (v := bv (!decide ((((c9.getD []).length : Nat) : Int) = 2))) (aCmp_ne _ _) ?_
  refine sim_guardF (e := bv) (fun hb14 => ?_) (fun c19 => ?_)
  · refine sim_get (O13.tab (A := ByteArray) (s := c9) 1 rfl) (fun m16 a15 hi17 hm18 => ?_)
    refine sim_let (v := sv a15) ((O13.tab (A := ByteArray) (s := c9) 1 rfl).ld hm18 false 1 0) ?_
    refine sim_let (v := bv (!decide (a15 = (⟨#[100, 101, 102, 97, 117, 108, 116]⟩ : ByteArray)))) (aCmp_neS _ _) ?_
    exact sim_ret rfl
  · refine sim_let (v := bv (bif !decide ((((c9.getD []).length : Nat) : Int) = 2) then true else c19)) (pick_b' _ _ _) ?_
    refine sim_cond (fun c20 => ?_) (fun c20 => ?_)
    · refine sim_let (v := AV.agg [iv 0, nilS]) (by first | rfl | simp [aBuild, aFill, splice]) ?_
      refine sim_store O13 0 (cs' := [iv 0, nilS]) rfl (by first | rfl | simp) (by simp) (by first | rfl | simp) (by first | rfl | simp [splice]) (fun h21 O22 => ?_)
      replace O22 : Hold B h21 [(AV.ptr o1 1 0 0, .pt 2 [iv 0, nilS]), (x11, obS (c9 : Sl ByteArray))] := O22
      refine sim_retL (resL_c (v := AV.agg [iv 0, nilS]) (O22.ld 0 rfl true 2 0) (resL_v (v := bv false) (resL_nil _))) ?_
      dsimp only [pack]
      exact sim_ret (release_plain (by rfl) _)
    · refine sim_get (O13.tab (A := ByteArray) (s := c9) 1 rfl) (fun m24 a23 hi25 hm26 => ?_)
      refine sim_let (v := sv a23) ((O13.tab (A := ByteArray) (s := c9) 1 rfl).ld hm26 false 1 0) ?_
      refine sim_call1 he_spec_l01Number (snapD_str _ _) (fun c27 => ?_)
      refine sim_let2 (hand_plain (by rfl) _ _) ?_
      refine sim_let (v := iv c27.1) rfl ?_
      refine sim_let (v := bv c27.2) rfl ?_
      refine sim_let (v := AV.agg [iv c27.1, nilS]) (by first | rfl | simp [aBuild, aFill, splice]) ?_
      refine sim_box O13 (cs := [iv 0, nilS]) (by first | rfl | simp) (fun o28 h29 O30 => ?_)
      replace O30 : Hold B h29 [(AV.ptr o1 1 0 0, .pt 2 [iv 0, nilS]), (x11, obS (c9 : Sl ByteArray)), (AV.ptr o28 1 0 0, .pt 2 [iv 0, nilS])] := O30
      refine sim_store O30 2 (cs' := [iv c27.1, nilS]) rfl (by first | rfl | simp) (by simp) (by first | rfl | simp) (by first | rfl | simp [splice]) (fun h32 O33 => ?_)
      replace O33 : Hold B h32 [(AV.ptr o1 1 0 0, .pt 2 [iv 0, nilS]), (x11, obS (c9 : Sl ByteArray)), (AV.ptr o28 1 0 0, .pt 2 [iv c27.1, nilS])] := O33
      have O34 : Hold B h32 [(AV.ptr o1 1 0 0, .pt 2 [iv 0, nilS]), (x11, obS (c9 : Sl ByteArray)), (AV.ptr o28 1 0 0, .pt 2 [iv c27.1, nilS]), (nilS, obS ((none : Sl Bigram) : Sl Bigram))] := O33.addnil
      refine sim_bind ((tl0_spec_l18Read env he_spec_l01Number he_spec_l01Split he_spec_l18Ok lines_ o1 a5 m6 c9 x11 c19 a23 m24 c27 o28) ⟨_, rfl, O34⟩) (fun qq141 r hq => ?_)
      rcases qq141 with ⟨q45, q47, q50⟩ | q66
      · obtain ⟨q51, z46, z48, z49, z52, z53, z54, h43, rfl, O44⟩ := hq
        rw [e_lk0x0_spec_l18Read]
        refine sim_let (v := AV.agg [iv q45, z46]) (O44.ld 2 rfl true 2 0) ?_
        refine sim_guardT (e := bv) (fun hb55 => ?_) (fun c57 => ?_)
        · refine sim_eqO (y' := tp_spec_l18Ok ⟨[(⟨q45, q47⟩ : Model)], 0⟩) (by simp only [tp_spec_l18Ok, get_pt1, obind_sm]) ?_
          refine sim_callQ1 he_spec_l18Ok (O44.snapR 2 rfl (⟨q45, q47⟩ : Model) rfl (by simp [omap, O44.snap7 (A := Bigram) (s := q47) 3 rfl])) (fun c56 => ?_)
          refine sim_let2 (hand_plain (by rfl) _ _) ?_
          exact sim_ret rfl
        · refine sim_let (v := bv (bif q50 then c57 else false)) (pick_b _ _ _) ?_
          refine sim_store O44 0 (cs' := [iv q45, z46]) rfl (by first | rfl | simp [(O44.one (A := Bigram) (s := q47) 3 rfl).1, (O44.one (A := Bigram) (s := q47) 3 rfl).2]) (by simp) (by first | rfl | simp [(O44.one (A := Bigram) (s := q47) 3 rfl).1, (O44.one (A := Bigram) (s := q47) 3 rfl).2]) (by first | rfl | simp [splice, (O44.one (A := Bigram) (s := q47) 3 rfl).1, (O44.one (A := Bigram) (s := q47) 3 rfl).2]) (fun h58 O59 => ?_)
          replace O59 : Hold B h58 [(AV.ptr o1 1 0 0, .pt 2 [iv q45, z46]), (x11, obS (c9 : Sl ByteArray)), (AV.ptr o28 1 0 0, .pt 2 [iv q45, z46]), (z46, obS (q47 : Sl Bigram))] := O59
          refine sim_retL (resL_c (v := AV.agg [iv q45, z46]) (O59.ld 0 rfl true 2 0) (resL_v (v := bv (bif q50 then c57 else false)) (resL_nil _))) ?_
          dsimp only [pack]
          have O60 : Hold B h58 [(z46, obS (q47 : Sl Bigram))] := O59.sel [3] (by decide) rfl
          exact sim_ret (release_of (by simp only [ids_tup, ids_aggD, ids_agg, ids_iv, ids_bv, ids_sv, ids_bt, ids_nilS, ids_enc, O60.idsD (A := Bigram) (s := q47) 0 rfl, List.map_append, List.map_nil, List.flatMap_cons, List.flatMap_nil, List.append_nil, List.nil_append]; simpa only [List.flatMap_cons, List.flatMap_nil, List.append_nil, List.nil_append] using O60.nd2) (by simp only [rel_tup, rel_aggD, rel_agg, rel_iv, rel_bv, rel_sv, rel_bt, rel_nilS, rel_enc, O60.relD (A := Bigram) (s := q47) 0 rfl, omapc, omapn, obind_sm] <;> rfl))
      · obtain ⟨q63, q65, q68, q69, z64, z67, z70, z71, z72, h61, rfl, O62⟩ := hq
        rw [e_lk0r_spec_l18Read]
        refine sim_retL (resL_c (v := AV.agg [iv 0, nilS]) (O62.ld 0 rfl true 2 0) (resL_v (v := bv q66) (resL_nil _))) ?_
        dsimp only [pack]
        exact sim_ret (release_plain (by rfl) _)
theorem tt_spec_l18Read : PureOK Tryd.prog n_spec_l18Read (C1 (fun c : Model × Bool => AV.tup [AV.agg [iv c.1.default, rS c.1.bigrams], enc c.2]) t_spec_l18Read) := pureC1 (Econs tt_spec_l01Number (Econs tt_spec_l01Split (Econs tt_spec_l18Ok E0))) mixed hb_spec_l18Read fun lines_ => ts_spec_l18Read _ (by simp [envL]) (by simp [envL]) (by simp [envL]) lines_

def t_spec_ReadModel (s_ : ByteArray) : Option (Model × Bool) :=
  obind (t_spec_l01Split s_ (10 : UInt8)) fun c5 =>
  obind (bif decide ((((c5.getD []).length : Nat) : Int) < 2) then some false else (obind (getI (c5.getD []) (wr ((((c5.getD []).length : Nat) : Int) - 1))) fun a11 => some (!decide (a11 = (⟨#[]⟩ : ByteArray))))) fun c15 =>
  bif (bif decide ((((c5.getD []).length : Nat) : Int) < 2) then true else c15) then
    some ((⟨0, (none : Sl Bigram)⟩ : Model), false)
  else
    obind (subS c5 none (some (wr ((((c5.getD []).length : Nat) : Int) - 1)))) fun s20 =>
    obind (t_spec_l18Read s20) fun c22 =>
    bif !c22.2 then
      some ((⟨0, (none : Sl Bigram)⟩ : Model), false)
    else
      some (c22.1, true)

theorem ts_spec_ReadModel (env : Nat → Contract) (he_spec_l01Split : env n_spec_l01Split = .pure (C2 (fun c : (Sl ByteArray) => rS c) t_spec_l01Split)) (he_spec_l18Read : env n_spec_l18Read = .pure (C1 (fun c : Model × Bool => AV.tup [AV.agg [iv c.1.default, rS c.1.bigrams], enc c.2]) t_spec_l18Read)) (s_ : ByteArray) : Sim (denFn Tryd.prog env n_spec_ReadModel [sv s_] []) (t_spec_ReadModel s_) fun c p => release p.2 depth p.1 = some ((fun c : Model × Bool => AV.tup [AV.agg [iv c.1.default, rS c.1.bigrams], enc c.2]) c) := by
  have O := Hold.nil []
  generalize hB : (⟨[], []⟩ : Base) = B at O
  clear hB
  rw [e_spec_ReadModel]
  unfold t_spec_ReadModel
  refine sim_box O (cs := [iv 0, nilS]) (by first | rfl | simp) (fun o1 h2 O3 => ?_)
  replace O3 : Hold B h2 [(AV.ptr o1 1 0 0, .pt 2 [iv 0, nilS])] := O3
  refine sim_call2 he_spec_l01Split (snapD_str _ _) (snapD_byte _ (10 : UInt8)) (fun c5 => ?_)
  refine sim_hand (A := ByteArray) O3 (fun x7 h8 O9 => ?_)
  replace O9 : Hold B h8 [(AV.ptr o1 1 0 0, .pt 2 [iv 0, nilS]), (x7, obS (c5 : Sl ByteArray))] := O9
  refine sim_let (v := iv (((c5.getD []).length : Nat) : Int)) (O9.tab (A := ByteArray) (s := c5) 1 rfl).len ?_
  refine sim_let (v := bv (decide ((((c5.getD []).length : Nat) : Int) < 2))) (aBin_lss _ _) ?_
  refine sim_guardF (e := bv) (fun hb10 => ?_) (fun c15 => ?_)
  · refine sim_let (v := iv (((c5.getD []).length : Nat) : Int)) (O9.tab (A := ByteArray) (s := c5) 1 rfl).len ?_
    refine sim_let (v := iv (wr ((((c5.getD []).length : Nat) : Int) - 1))) (aBin_sub _ _) ?_
    refine sim_get (O9.tab (A := ByteArray) (s := c5) 1 rfl) (fun m12 a11 hi13 hm14 => ?_)
    refine sim_let (v := sv a11) ((O9.tab (A := ByteArray) (s := c5) 1 rfl).ld hm14 false 1 0) ?_
    refine sim_let (v := bv (!decide (a11 = (⟨#[]⟩ : ByteArray)))) (aCmp_neS _ _) ?_
    exact sim_ret rfl
  · refine sim_let (v := bv (bif decide ((((c5.getD []).length : Nat) : Int) < 2) then true else c15)) (pick_b' _ _ _) ?_
    refine sim_cond (fun c16 => ?_) (fun c16 => ?_)
    · refine sim_let (v := AV.agg [iv 0, nilS]) (by first | rfl | simp [aBuild, aFill, splice]) ?_
      refine sim_store O9 0 (cs' := [iv 0, nilS]) rfl (by first | rfl | simp) (by simp) (by first | rfl | simp) (by first | rfl | simp [splice]) (fun h17 O18 => ?_)
      replace O18 : Hold B h17 [(AV.ptr o1 1 0 0, .pt 2 [iv 0, nilS]), (x7, obS (c5 : Sl ByteArray))] := O18
      refine sim_retL (resL_c (v := AV.agg [iv 0, nilS]) (O18.ld 0 rfl true 2 0) (resL_v (v := bv false) (resL_nil _))) ?_
      dsimp only [pack]
      exact sim_ret (release_plain (by rfl) _)
    · refine sim_let (v := iv (((c5.getD []).length : Nat) : Int)) (O9.tab (A := ByteArray) (s := c5) 1 rfl).len ?_
      refine sim_let (v := iv (wr ((((c5.getD []).length : Nat) : Int) - 1))) (aBin_sub _ _) ?_
      refine sim_subO01 (A := ByteArray) (s := c5) O9 1 rfl (fun x19 s20 hq21 => ?_)
      refine sim_call1 he_spec_l18Read (hq21) (fun c22 => ?_)
      refine sim_hand1 O9 (c22.1.bigrams : Sl Bigram) (fun z1 => AV.tup [AV.agg [iv c22.1.default, z1], bv c22.2]) (by intro b; simp only [mat_tup, mat_aggD, mat_agg, matLc, matLn, mat_iv, mat_bv, mat_sv, mat_bt, mat_nilS, mat_rS, List.append_nil, List.nil_append, List.length_nil, Nat.add_zero]) (by simp only [noF_tup, noF_aggD, noF_agg, noF_iv, noF_bv, noF_sv, noF_bt, noF_nilS, noF_rS, List.all_cons, List.all_nil, Bool.and_self]) (fun x24 h25 O26 => ?_)
      replace O26 : Hold B h25 [(AV.ptr o1 1 0 0, .pt 2 [iv 0, nilS]), (x7, obS (c5 : Sl ByteArray)), (x24, obS (c22.1.bigrams : Sl Bigram))] := O26
      refine sim_let (v := AV.agg [iv c22.1.default, x24]) rfl ?_
      refine sim_let (v := bv c22.2) rfl ?_
      refine sim_box O26 (cs := [iv 0, nilS]) (by first | rfl | simp) (fun o27 h28 O29 => ?_)
      replace O29 : Hold B h28 [(AV.ptr o1 1 0 0, .pt 2 [iv 0, nilS]), (x7, obS (c5 : Sl ByteArray)), (x24, obS (c22.1.bigrams : Sl Bigram)), (AV.ptr o27 1 0 0, .pt 2 [iv 0, nilS])] := O29
      refine sim_store O29 3 (cs' := [iv c22.1.default, x24]) rfl (by first | rfl | simp [(O29.one (A := Bigram) (s := c22.1.bigrams) 2 rfl).1, (O29.one (A := Bigram) (s := c22.1.bigrams) 2 rfl).2]) (by simp) (by first | rfl | simp [(O29.one (A := Bigram) (s := c22.1.bigrams) 2 rfl).1, (O29.one (A := Bigram) (s := c22.1.bigrams) 2 rfl).2]) (by first | rfl | simp [splice, (O29.one (A := Bigram) (s := c22.1.bigrams) 2 rfl).1, (O29.one (A := Bigram) (s := c22.1.bigrams) 2 rfl).2]) (fun h31 O32 => ?_)
      replace O32 : Hold B h31 [(AV.ptr o1 1 0 0, .pt 2 [iv 0, nilS]), (x7, obS (c5 : Sl ByteArray)), (x24, obS (c22.1.bigrams : Sl Bigram)), (AV.ptr o27 1 0 0, .pt 2 [iv c22.1.default, x24])] := O32
      refine sim_let (v := bv (!c22.2)) (aUn_not _) ?_
      refine sim_cond (fun c33 => ?_) (fun c33 => ?_)
      · refine sim_let (v := AV.agg [iv 0, nilS]) (by first | rfl | simp [aBuild, aFill, splice]) ?_
        refine sim_store O32 0 (cs' := [iv 0, nilS]) rfl (by first | rfl | simp) (by simp) (by first | rfl | simp) (by first | rfl | simp [splice]) (fun h34 O35 => ?_)
        replace O35 : Hold B h34 [(AV.ptr o1 1 0 0, .pt 2 [iv 0, nilS]), (x7, obS (c5 : Sl ByteArray)), (x24, obS (c22.1.bigrams : Sl Bigram)), (AV.ptr o27 1 0 0, .pt 2 [iv c22.1.default, x24])] := O35
        refine sim_retL (resL_c (v := AV.agg [iv 0, nilS]) (O35.ld 0 rfl true 2 0) (resL_v (v := bv false) (resL_nil _))) ?_
        dsimp only [pack]
        exact sim_ret (release_plain (by rfl) _)
      · refine sim_let (v := AV.agg [iv c22.1.default, x24]) (O32.ld 3 rfl true 2 0) ?_
        refine sim_store O32 0 (cs' := [iv c22.1.default, x24]) rfl (by first | rfl | simp [(O32.one (A := Bigram) (s := c22.1.bigrams) 2 rfl).1, (O32.one (A := Bigram) (s := c22.1.bigrams) 2 rfl).2]) (by simp) (by first | rfl | simp [(O32.one (A := Bigram) (s := c22.1.bigrams) 2 rfl).1, (O32.one (A := Bigram) (s := c22.1.bigrams) 2 rfl).2]) (by first | rfl | simp [splice, (O32.one (A := Bigram) (s := c22.1.bigrams) 2 rfl).1, (O32.one (A := Bigram) (s := c22.1.bigrams) 2 rfl).2]) (fun h36 O37 => ?_)
        replace O37 : Hold B h36 [(AV.ptr o1 1 0 0, .pt 2 [iv c22.1.default, x24]), (x7, obS (c5 : Sl ByteArray)), (x24, obS (c22.1.bigrams : Sl Bigram)), (AV.ptr o27 1 0 0, .pt 2 [iv c22.1.default, x24])] := O37
        refine sim_retL (resL_c (v := AV.agg [iv c22.1.default, x24]) (O37.ld 0 rfl true 2 0) (resL_v (v := bv true) (resL_nil _))) ?_
        dsimp only [pack]
        have O38 : Hold B h36 [(x24, obS (c22.1.bigrams : Sl Bigram))] := O37.sel [2] (by decide) rfl
        exact sim_ret (release_of (by simp only [ids_tup, ids_aggD, ids_agg, ids_iv, ids_bv, ids_sv, ids_bt, ids_nilS, ids_enc, O38.idsD (A := Bigram) (s := c22.1.bigrams) 0 rfl, List.map_append, List.map_nil, List.flatMap_cons, List.flatMap_nil, List.append_nil, List.nil_append]; simpa only [List.flatMap_cons, List.flatMap_nil, List.append_nil, List.nil_append] using O38.nd2) (by simp only [rel_tup, rel_aggD, rel_agg, rel_iv, rel_bv, rel_sv, rel_bt, rel_nilS, rel_enc, O38.relD (A := Bigram) (s := c22.1.bigrams) 0 rfl, omapc, omapn, obind_sm] <;> rfl))
theorem tt_spec_ReadModel : PureOK Tryd.prog n_spec_ReadModel (C1 (fun c : Model × Bool => AV.tup [AV.agg [iv c.1.default, rS c.1.bigrams], enc c.2]) t_spec_ReadModel) := pureC1 (Econs tt_spec_l01Split (Econs tt_spec_l18Read E0)) mixed hb_spec_ReadModel fun s_ => ts_spec_ReadModel _ (by simp [envL]) (by simp [envL]) s_

def s0_laws_heldBigramS (a_ : Sl Bigram) : (Int × Int) → Option (Sum (Int × Int) (Sum Int Int)) := fun (w3, w4) =>
  bif decide (w4 < (((a_.getD []).length : Nat) : Int)) then
    obind (getI (a_.getD []) w4) fun a16 =>
    obind (t_laws_markText w3) fun c20 =>
    bif !decide (a16.first = c20) then
      some (.inr (.inr (-1)))
    else
      obind (getI (a_.getD []) w4) fun a23 =>
      obind (t_laws_markText (wr (w3 + 1))) fun c27 =>
      bif !decide (a23.second = c27) then
        some (.inr (.inr (-1)))
      else
        obind (getI (a_.getD []) w4) fun a30 =>
        bif !decide (a30.cost = wr ((wr (w3 + 1)) + 1)) then
          some (.inr (.inr (-1)))
        else
          some (.inl (wr ((wr ((wr (w3 + 1)) + 1)) + 1), wr (w4 + 1)))
  else
    some (.inr (.inl w3))
def t_laws_heldBigramS (a_ : Sl Bigram) (k_ : Int) : Option Int :=
  obind (loopT (s0_laws_heldBigramS a_) (k_, 0)) fun qq39 => match qq39 with
  | (.inl q7) =>
      some q7
  | (.inr q13) =>
      some q13

theorem tl0_laws_heldBigramS (env : Nat → Contract) {B : Base} (he_laws_markText : env n_laws_markText = .pure (C1 (fun c : ByteArray => enc c) t_laws_markText)) (a_ : Sl Bigram)  {st : Int × Int} {tm : TM} {h : Heap} (R : (fun (st : Int × Int) tm h1 => match st with | (w3, w4) => tm = [Sl.enc a_, iv w3, und, und, AV.top, iv w4, AV.top, AV.top, AV.top, AV.top, AV.top, AV.top, AV.top, AV.top, AV.top, AV.top, AV.top, AV.top, AV.top, AV.top, AV.top, AV.top, AV.top, AV.top, AV.top, AV.top, AV.top, AV.top, AV.top, AV.top, AV.top, AV.top, AV.top, AV.top, AV.top, AV.top, AV.top, AV.top, AV.top, AV.top, AV.top, und] ∧ Hold B h1 []) st tm h) : Sim (loopP hm0_laws_heldBigramS xm0_laws_heldBigramS (lb0_laws_heldBigramS env) tm h) (loopT (s0_laws_heldBigramS a_) st) (fun (q : Sum Int Int) (r : Res) => match q with | .inl q7 => ∃ (q9 : Int) (z8 : AV) (h5 : Heap), r = (.exit 0, [Sl.enc a_, iv q7, und, und, z8, iv q9, AV.top, AV.top, AV.top, AV.top, AV.top, AV.top, AV.top, AV.top, AV.top, AV.top, AV.top, AV.top, AV.top, AV.top, AV.top, AV.top, AV.top, AV.top, AV.top, AV.top, AV.top, AV.top, AV.top, AV.top, AV.top, AV.top, AV.top, AV.top, AV.top, AV.top, AV.top, AV.top, AV.top, AV.top, AV.top, und], h5) ∧ Hold B h5 [] | .inr q13 => ∃ (q12 : Int) (q14 : Int) (h10 : Heap), r = (.ret, [Sl.enc a_, iv q12, und, und, iv q13, iv q14, AV.top, AV.top, AV.top, AV.top, AV.top, AV.top, AV.top, AV.top, AV.top, AV.top, AV.top, AV.top, AV.top, AV.top, AV.top, AV.top, AV.top, AV.top, AV.top, AV.top, AV.top, AV.top, AV.top, AV.top, AV.top, AV.top, AV.top, AV.top, AV.top, AV.top, AV.top, AV.top, AV.top, AV.top, AV.top, und], h10) ∧ Hold B h10 []) := by
  refine loop_sim (Rel := fun (st : Int × Int) tm h1 => match st with | (w3, w4) => tm = [Sl.enc a_, iv w3, und, und, AV.top, iv w4, AV.top, AV.top, AV.top, AV.top, AV.top, AV.top, AV.top, AV.top, AV.top, AV.top, AV.top, AV.top, AV.top, AV.top, AV.top, AV.top, AV.top, AV.top, AV.top, AV.top, AV.top, AV.top, AV.top, AV.top, AV.top, AV.top, AV.top, AV.top, AV.top, AV.top, AV.top, AV.top, AV.top, AV.top, AV.top, und] ∧ Hold B h1 []) (fun st tm h1 R => ?_) R
  obtain ⟨w3, w4⟩ := st
  obtain ⟨rfl, O2⟩ := R
  rw [e_lb0_laws_heldBigramS]
  unfold s0_laws_heldBigramS
  dsimp only
  refine sim_let (v := iv (((a_.getD []).length : Nat) : Int)) (Tab.enc h1 a_).len ?_
  refine sim_let (v := bv (decide (w4 < (((a_.getD []).length : Nat) : Int)))) (aBin_lss _ _) ?_
  refine sim_cond (fun c15 => ?_) (fun c15 => ?_)
  · refine sim_get (Tab.enc h1 a_) (fun m17 a16 hi18 hm19 => ?_)
    refine sim_let (v := elp (Sl.enc a_) m17 0) ((Tab.enc h1 a_).fld _ _ _) ?_
    refine sim_let (v := sv a16.first) ((Tab.enc h1 a_).ld hm19 false 1 0) ?_
    refine sim_callQ1 he_laws_markText (snapD_int _ _) (fun c20 => ?_)
    refine sim_let2 (hand_plain (by rfl) _ _) ?_
    refine sim_let (v := bv (!decide (a16.first = c20))) (aCmp_neS _ _) ?_
    refine sim_cond (fun c21 => ?_) (fun c21 => ?_)
    · exact sim_ret ⟨nofun, _, _, _, rfl, O2⟩
    · refine sim_let (v := iv (wr (w3 + 1))) (aBin_add _ _) ?_
      refine sim_get (Tab.enc h1 a_) (fun m24 a23 hi25 hm26 => ?_)
      refine sim_let (v := elp (Sl.enc a_) m24 1) ((Tab.enc h1 a_).fld _ _ _) ?_
      refine sim_let (v := sv a23.second) ((Tab.enc h1 a_).ld hm26 false 1 1) ?_
      refine sim_callQ1 he_laws_markText (snapD_int _ _) (fun c27 => ?_)
      refine sim_let2 (hand_plain (by rfl) _ _) ?_
      refine sim_let (v := bv (!decide (a23.second = c27))) (aCmp_neS _ _) ?_
      refine sim_cond (fun c28 => ?_) (fun c28 => ?_)
      · exact sim_ret ⟨nofun, _, _, _, rfl, O2⟩
      · refine sim_let (v := iv (wr ((wr (w3 + 1)) + 1))) (aBin_add _ _) ?_
        refine sim_get (Tab.enc h1 a_) (fun m31 a30 hi32 hm33 => ?_)
        refine sim_let (v := elp (Sl.enc a_) m31 2) ((Tab.enc h1 a_).fld _ _ _) ?_
        refine sim_let (v := iv a30.cost) ((Tab.enc h1 a_).ld hm33 false 1 2) ?_
        refine sim_let (v := bv (!decide (a30.cost = wr ((wr (w3 + 1)) + 1)))) (aCmp_ne _ _) ?_
        refine sim_cond (fun c34 => ?_) (fun c34 => ?_)
        · exact sim_ret ⟨nofun, _, _, _, rfl, O2⟩
        · refine sim_let (v := iv (wr ((wr ((wr (w3 + 1)) + 1)) + 1))) (aBin_add _ _) ?_
          refine sim_let (v := iv (wr (w4 + 1))) (aBin_add _ _) ?_
          exact sim_ret ⟨rfl, rfl, O2⟩
  · exact sim_ret ⟨nofun, _, _, _, rfl, O2⟩
theorem ts_laws_heldBigramS (env : Nat → Contract) (he_laws_markText : env n_laws_markText = .pure (C1 (fun c : ByteArray => enc c) t_laws_markText)) (a_ : Sl Bigram) (k_ : Int) : Sim (denFn Tryd.prog env n_laws_heldBigramS [Sl.enc a_, iv k_] []) (t_laws_heldBigramS a_ k_) fun c p => release p.2 depth p.1 = some ((fun c : Int => enc c) c) := by
  have O := Hold.nil []
  generalize hB : (⟨[], []⟩ : Base) = B at O
  clear hB
  rw [e_laws_heldBigramS]
  unfold t_laws_heldBigramS
  refine sim_bind ((tl0_laws_heldBigramS env he_laws_markText a_) ⟨rfl, O⟩) (fun qq39 r hq => ?_)
  rcases qq39 with q7 | q13
  · obtain ⟨q9, z8, h5, rfl, O6⟩ := hq
    rw [e_lk0x0_laws_heldBigramS]
    exact sim_ret (release_plain (by rfl) _)
  · obtain ⟨q12, q14, h10, rfl, O11⟩ := hq
    rw [e_lk0r_laws_heldBigramS]
    exact sim_ret (release_plain (by rfl) _)
theorem tt_laws_heldBigramS : PureOK Tryd.prog n_laws_heldBigramS (C2 (fun c : Int => enc c) t_laws_heldBigramS) := pureC2 (Econs tt_laws_markText E0) mixed hb_laws_heldBigramS fun a_ k_ => ts_laws_heldBigramS _ (by simp [envL]) a_ k_

def t_laws_heldModel (a_ : Model) (k_ : Int) : Option Int :=
  obind (t_laws_heldBigramS a_.bigrams k_) fun c5 =>
  bif decide (c5 < 0) then
    some (-1)
  else
    some c5

theorem ts_laws_heldModel (env : Nat → Contract) (he_laws_heldBigramS : env n_laws_heldBigramS = .pure (C2 (fun c : Int => enc c) t_laws_heldBigramS)) (a_ : Model) (k_ : Int) : Sim (denFn Tryd.prog env n_laws_heldModel [AV.agg [iv a_.default, Sl.enc a_.bigrams], iv k_] []) (t_laws_heldModel a_ k_) fun c p => release p.2 depth p.1 = some ((fun c : Int => enc c) c) := by
  have O := Hold.nil []
  generalize hB : (⟨[], []⟩ : Base) = B at O
  clear hB
  rw [e_laws_heldModel]
  unfold t_laws_heldModel
  refine sim_box O (cs := [iv a_.default, Sl.enc a_.bigrams]) (by first | rfl | simp) (fun o1 h2 O3 => ?_)
  replace O3 : Hold B h2 [(AV.ptr o1 1 0 0, .pt 2 [iv a_.default, Sl.enc a_.bigrams])] := O3
  refine sim_let (v := AV.ptr o1 1 0 1) rfl ?_
  refine sim_let (v := Sl.enc a_.bigrams) (O3.ld 0 rfl false 1 1) ?_
  refine sim_call2 he_laws_heldBigramS (snapD_enc _ _) (snapD_int _ _) (fun c5 => ?_)
  refine sim_let2 (hand_plain (by rfl) _ _) ?_
  refine sim_let (v := bv (decide (c5 < 0))) (aBin_lss _ _) ?_
  refine sim_cond (fun c6 => ?_) (fun c6 => ?_)
  · exact sim_ret (release_plain (by rfl) _)
  · exact sim_ret (release_plain (by rfl) _)
theorem tt_laws_heldModel : PureOK Tryd.prog n_laws_heldModel (C2 (fun c : Int => enc c) t_laws_heldModel) := pureC2 (Econs tt_laws_heldBigramS E0) mixed hb_laws_heldModel fun a_ k_ => ts_laws_heldModel _ (by simp [envL]) a_ k_

theorem lp_laws_markBigramS (env : Nat → Contract) (he : env n_laws_markText = .pure (G1 (fun k : Int => decide (0 ≤ k) && decide (k ≤ 100000000)) fun k => sv (markT k.toNat))) {y2 y3 y4 y35 : AV} (o n : Nat) : ∀ (S P : List (List AV)) (k i : Nat) (h : Heap), i = P.length → P.length + S.length = n → n ≤ 4294967296 → (∀ r ∈ S, r.length = 3) → k + 3 * S.length ≤ 100000000 → h[o]? = some ⟨3, P ++ S⟩ →
    (obind (loopP hm0_laws_markBigramS xm0_laws_markBigramS (lb0_laws_markBigramS env) [.sl o n 0 n, iv (k : Nat), y2, y3, y4, iv (i : Nat), .top, .top, .top, .top, .top, .top, .top, .top, .top, .top, .top, .top, .top, .top, .top, .top, .top, .top, .top, .top, .top, .top, .top, .top, .top, .top, .top, .top, .top, y35] h) fun r => lk0_laws_markBigramS env r.1 r.2.1 r.2.2) = some (iv ((k + 3 * S.length : Nat) : Int), h.set o ⟨3, P ++ mrows [true, true, false] k S.length⟩) := by
  intro S
  induction S with
  | nil =>
    intro P k i h hi hl hn hr hk ho
    have : ¬ i < n := by simp at hl; omega
    have hs := set_same ho
    simp at hs
    rw [loopP.eq_1]
    simp [e_lb0_laws_markBigramS, restr, e_lk0x0_laws_markBigramS, this, mrows, hs]
  | cons r S ih =>
    intro P k i h hi hl hn hr hk ho
    have hl' : P.length + (S.length + 1) = n := by simpa using hl
    simp only [List.length_cons] at hk
    have hlt : i < n := by omega
    have hrl := hr r (by simp)
    obtain ⟨c0, c1, c2, rfl⟩ : ∃ c0 c1 c2, r = [c0, c1, c2] := by
      match r, hrl with
      | [c0, c1, c2], _ => exact ⟨c0, c1, c2, rfl⟩
    have olt := (List.getElem?_eq_some_iff.1 ho).1
    have a0 := mark_addr (w := 3) (r := [c0, c1, c2]) ho hi hl'
    have s0 := mark_store (j := 0) (v := sv (markT k)) ho hi hl' rfl rfl (by simp)
    simp only [List.set_cons_zero, List.set_cons_succ, List.set_set] at s0
    have g0 : (h.set o ⟨3, P ++ [(sv (markT k)), c1, c2] :: S⟩)[o]? = some ⟨3, P ++ [(sv (markT k)), c1, c2] :: S⟩ := by simp [olt]
    have w0 : wr ((k : Int) + 1) = ((k + 1 : Nat) : Int) := by rw [wr_id (by omega) (by omega)]; omega
    have t0 : (0 ≤ (k : Int)) = True := eq_true (by omega)
    have u0 : ((k : Int) ≤ 100000000) = True := eq_true (by omega)
    have q0 : ∀ h, aCall (env n_laws_markText) [iv (k : Int)] h = some (sv (markT k), h) := fun h => by
      rw [he]
      simp [-Int.natCast_add, t0, u0]
    have a1 := mark_addr (w := 3) (r := [(sv (markT k)), c1, c2]) g0 hi hl'
    have s1 := mark_store (j := 1) (v := sv (markT (k + 1))) g0 hi hl' rfl rfl (by simp)
    simp only [List.set_cons_zero, List.set_cons_succ, List.set_set] at s1
    have g1 : (h.set o ⟨3, P ++ [(sv (markT k)), (sv (markT (k + 1))), c2] :: S⟩)[o]? = some ⟨3, P ++ [(sv (markT k)), (sv (markT (k + 1))), c2] :: S⟩ := by simp [olt]
    have w1 : wr (((k + 1 : Nat) : Int) + 1) = ((k + 2 : Nat) : Int) := by rw [wr_id (by omega) (by omega)]; omega
    have t1 : (0 ≤ ((k + 1 : Nat) : Int)) = True := eq_true (by omega)
    have u1 : (((k + 1 : Nat) : Int) ≤ 100000000) = True := eq_true (by omega)
    have q1 : ∀ h, aCall (env n_laws_markText) [iv ((k + 1 : Nat) : Int)] h = some (sv (markT (k + 1)), h) := fun h => by
      rw [he]
      simp [-Int.natCast_add, t1, u1]
    have a2 := mark_addr (w := 3) (r := [(sv (markT k)), (sv (markT (k + 1))), c2]) g1 hi hl'
    have s2 := mark_store (j := 2) (v := iv ((k + 2 : Nat) : Int)) g1 hi hl' rfl rfl (by simp)
    simp only [List.set_cons_zero, List.set_cons_succ, List.set_set] at s2
    have g2 : (h.set o ⟨3, P ++ [(sv (markT k)), (sv (markT (k + 1))), (iv ((k + 2 : Nat) : Int))] :: S⟩)[o]? = some ⟨3, P ++ [(sv (markT k)), (sv (markT (k + 1))), (iv ((k + 2 : Nat) : Int))] :: S⟩ := by simp [olt]
    have w2 : wr (((k + 2 : Nat) : Int) + 1) = ((k + 3 : Nat) : Int) := by rw [wr_id (by omega) (by omega)]; omega
    have wi : wr ((i : Int) + 1) = ((i + 1 : Nat) : Int) := by rw [wr_id (by omega) (by omega)]; omega
    have r := ih (P ++ [[(sv (markT k)), (sv (markT (k + 1))), (iv ((k + 2 : Nat) : Int))]]) (k + 3) (i + 1) (h.set o ⟨3, P ++ [(sv (markT k)), (sv (markT (k + 1))), (iv ((k + 2 : Nat) : Int))] :: S⟩) (by simp [hi]) (by simp; omega) hn (fun r hr' => hr r (by simp [hr'])) (by omega) (by simp [olt])
    have hlz : ((i : Int) < (n : Nat)) := by omega
    rw [loopP.eq_1]
    simp only [e_lb0_laws_markBigramS, aLenK_sl, obind_sm, aBin_lss, condB_bv, hlz, decide_true, cond_true, aFieldAddr_ptr, Nat.zero_add, a0, s0, w0, q0, obind2_sm, a1, s1, w1, q1, obind2_sm, a2, s2, w2, wi, aBin_add, restr, cond_false]
    rw [r]
    simp only [mrows, mrow, List.length_cons, List.set_set, List.append_assoc, List.singleton_append, cond_true, cond_false, Nat.add_assoc]
    congr 3
    · omega
theorem gen_laws_markBigramS (env : Nat → Contract) (he : env n_laws_markText = .pure (G1 (fun k : Int => decide (0 ≤ k) && decide (k ≤ 100000000)) fun k => sv (markT k.toNat))) (R : List (List AV)) (o n : Nat) (hn : R.length = n) (hl : n ≤ 4294967296) (hr : ∀ r ∈ R, r.length = 3) (k : Nat) (hk : k + 3 * n ≤ 100000000) (h : Heap) (ho : h[o]? = some ⟨3, R⟩) :
    denFn Tryd.prog env n_laws_markBigramS [.sl o n 0 n, iv (k : Nat)] h = some (iv ((k + 3 * n : Nat) : Int), h.set o ⟨3, mrows [true, true, false] k n⟩) := by
  have L := fun {y2 y3 y4 y35} => @lp_laws_markBigramS env he y2 y3 y4 y35 o n R [] k 0 h rfl (by simpa using hn) hl hr (by rw [hn]; exact hk) (by simpa using ho)
  rw [hn] at L
  simp [-Int.natCast_add] at L
  simp [-Int.natCast_add, e_laws_markBigramS, L]

/-! ### Marks in a struct with one slice -/
/-- What a function that fills the slice of a struct with marks does. -/
def MarkGOK {A : Type} [Row A] (w j : Nat) (f : List AV → Heap → Option (AV × Heap)) (mk : Sl A → Int → Option (Int × Sl A)) : Prop :=
  ∀ (B : Base) (h : Heap) (L : List Ent) (i : Nat) (x : AV) (s : Sl A) (k r : Int) (s' : Sl A) (cs : List AV), Hold B h L → L[i]? = some (x, obS s) → cs.all AV.flat = true → cs.length = w → cs[j]? = some x → mk s k = some (r, s') → ∃ h', f [AV.agg cs, iv k] h = some (iv r, h') ∧ Hold B h' (L.set i (x, obS s'))
theorem sim_markG {A : Type} [Row A] {B : Base} {h : Heap} {L : List Ent} {γ δ : Type} {env : Nat → Contract} {g w j : Nat} {f : List AV → Heap → Option (AV × Heap)} {mk : Sl A → Int → Option (Int × Sl A)} {cs : List AV} (O : Hold B h L) (i : Nat) {x : AV} {s : Sl A} (hi : L[i]? = some (x, obS s)) {k : Int} (he : env g = .gen f) (hf : MarkGOK w j f mk) (hc : cs.all AV.flat = true) (hw : cs.length = w) (hj : cs[j]? = some x)
    {F : AV → Heap → Option γ} {G : Int × Sl A → Option δ} {Q : δ → γ → Prop} (K : ∀ r s' h', Hold B h' (L.set i (x, obS s')) → Sim (F (iv r) h') (G (r, s')) Q) : Sim (obind2 (aCall (env g) [AV.agg cs, iv k] h) F) (obind (mk s k) G) Q := by
  rw [he]
  show Sim (obind2 (f [AV.agg cs, iv k] h) F) _ Q
  cases hm : mk s k with
  | none => exact sim_no
  | some p =>
    obtain ⟨r, s'⟩ := p
    obtain ⟨h', e1, e2⟩ := hf B h L i x s k r s' cs O hi hc hw hj hm
    rw [obind_sm, e1, obind2_sm]
    exact K r s' h' e2
theorem markG_of {A : Type} [Row A] {w j g1 : Nat} {env : Nat → Contract} {f : List AV → Heap → Option (AV × Heap)} {D : List AV → Heap → Option (AV × Heap)} {mk : Sl A → Int → Option (Int × Sl A)} (he : env g1 = .gen f) (hf : MarkOK f mk)
    (e : ∀ (cs : List AV) (x1 : AV) (h : Heap), D [AV.agg cs, x1] h = obind2 (aBox cs h) fun v1 h2 => obind (aFieldAddr j v1) fun v3 => obind (aLoad false 1 v3 h2) fun v4 => obind2 (aCall (env g1) [v4, x1] h2) fun v5 h6 => some (v5, h6)) : MarkGOK w j D mk := by
  intro B h L i x s k r s' cs O hi hc hw hj hm
  have hx : x.cells = [x] ∧ x.flat = true := O.one i hi
  have hlt := (List.getElem?_eq_some_iff.1 hi).1
  have O2 : Hold B (h ++ [⟨cs.length, [cs]⟩]) (L ++ [(.ptr h.length 1 0 0, .pt cs.length cs)]) := O.alloc (.pt cs.length cs) rfl
  have hi2 : (L ++ [(AV.ptr h.length 1 0 0, EV.pt cs.length cs)])[i]? = some (x, obS s) := by rw [List.getElem?_append_left hlt]; exact hi
  obtain ⟨h', f1, f2⟩ := O2.mark i hi2 hf hm
  rw [List.set_append_left _ _ hlt] at f2
  refine ⟨h', ?_, f2.left⟩
  have ld := O2.ld (o := h.length) (k := cs.length) (cs := cs) L.length (by simp) false 1 j
  have dr : cs.drop j = x :: cs.drop (j + 1) := by
    obtain ⟨hl, e⟩ := List.getElem?_eq_some_iff.1 hj
    rw [List.drop_eq_getElem_cons hl, e]
  rw [e]
  unfold aBox
  rw [if_pos hc, obind2_sm]
  have fa : aFieldAddr j (AV.ptr h.length 1 0 0) = some (AV.ptr h.length 1 0 j) := by simp [aFieldAddr]
  rw [fa, obind_sm, ld, dr]
  have ct : cut false 1 (x :: cs.drop (j + 1)) = some x := by simp [cut]
  rw [ct, obind_sm, he]
  show obind2 (f [x, iv k] _) _ = _
  rw [f1, obind2_sm]

/-- Marks in a list of texts. -/
def mkSt : Nat → Nat → List ByteArray
  | _, 0 => []
  | k, n + 1 => markT k :: mkSt (k + 1) n
theorem mkSt_len : ∀ (n k : Nat), (mkSt k n).length = n
  | 0, _ => rfl
  | n + 1, k => by simp [mkSt, mkSt_len n]
def t_laws_markStringS (s : Sl ByteArray) (k : Int) : Option (Int × Sl ByteArray) := bif decide (0 ≤ k) && decide (k + 1 * ((s.getD []).length : Nat) ≤ 100000000) then some (k + 1 * ((s.getD []).length : Nat), s.map fun l => mkSt k.toNat l.length) else none
/-- Marks in a list of pairs of words. -/
def mkBg : Nat → Nat → List Bigram
  | _, 0 => []
  | k, n + 1 => ⟨markT k, markT (k + 1), ((k + 2 : Nat) : Int)⟩ :: mkBg (k + 3) n
theorem mkBg_len : ∀ (n k : Nat), (mkBg k n).length = n
  | 0, _ => rfl
  | n + 1, k => by simp [mkBg, mkBg_len n]
def t_laws_markBigramS (s : Sl Bigram) (k : Int) : Option (Int × Sl Bigram) := bif decide (0 ≤ k) && decide (k + 3 * ((s.getD []).length : Nat) ≤ 100000000) then some (k + 3 * ((s.getD []).length : Nat), s.map fun l => mkBg k.toNat l.length) else none

noncomputable def ev_laws_markStringS : Nat → Contract := envL [(n_laws_markText, .pure (G1 (fun k : Int => decide (0 ≤ k) && decide (k ≤ 100000000)) fun k => sv (markT k.toNat)))]
theorem eo_laws_markStringS : EnvOK Tryd.prog ev_laws_markStringS := Econs okB_laws_markText E0
noncomputable def ev_laws_markBigramS : Nat → Contract := envL [(n_laws_markText, .pure (G1 (fun k : Int => decide (0 ≤ k) && decide (k ≤ 100000000)) fun k => sv (markT k.toNat)))]
theorem eo_laws_markBigramS : EnvOK Tryd.prog ev_laws_markBigramS := Econs okB_laws_markText E0

theorem mrows_Bg : ∀ (n k : Nat), mrows [true, true, false] k n = (mkBg k n).map Row.cells
  | 0, _ => rfl
  | n + 1, k => by
    have ih := mrows_Bg n (k + 3)
    show [sv (markT k), sv (markT (k + 1)), iv ((k + 1 + 1 : Nat) : Int)] :: mrows [true, true, false] (k + 3) n = [sv (markT k), sv (markT (k + 1)), iv ((k + 2 : Nat) : Int)] :: (mkBg (k + 3) n).map Row.cells
    rw [ih]
theorem mk_laws_markBigramS : MarkOK (denFn Tryd.prog ev_laws_markBigramS n_laws_markBigramS) t_laws_markBigramS := by
  have he : ev_laws_markBigramS n_laws_markText = .pure (G1 (fun k : Int => decide (0 ≤ k) && decide (k ≤ 100000000)) fun k => sv (markT k.toNat)) := by simp [ev_laws_markBigramS, envL]
  intro s k r s' h
  unfold t_laws_markBigramS at h
  cases c : decide (0 ≤ k) && decide (k + 3 * ((s.getD []).length : Nat) ≤ 100000000) with
  | false => rw [c] at h; cases h
  | true =>
    rw [c] at h
    simp only [cond_true, Option.some.injEq, Prod.mk.injEq] at h
    obtain ⟨rfl, rfl⟩ := h
    simp only [Bool.and_eq_true, decide_eq_true_eq] at c
    obtain ⟨m, rfl⟩ := Int.eq_ofNat_of_zero_le c.1
    cases s with
    | none =>
      refine .inl ⟨rfl, rfl, fun h => ?_⟩
      rw [e_laws_markBigramS, loopP.eq_1]
      simp [e_lb0_laws_markBigramS, e_lk0x0_laws_markBigramS, restr]
    | some l =>
      refine .inr ⟨l, mkBg m l.length, rfl, rfl, mkBg_len _ _, fun o h ho => ?_⟩
      have g := gen_laws_markBigramS ev_laws_markBigramS he (l.map Row.cells) o l.length (by simp) (by simp only [Option.getD_some] at c; omega) (fun r hr => by
        obtain ⟨a, _, rfl⟩ := List.mem_map.1 hr
        rfl) m (by simp only [Option.getD_some] at c; omega) h ho
      rw [mrows_Bg] at g
      rw [g]
      simp only [Option.getD_some]
      congr 3

noncomputable def ev_laws_markModel : Nat → Contract := envL [(n_laws_markBigramS, .gen (denFn Tryd.prog ev_laws_markBigramS n_laws_markBigramS))]
theorem eo_laws_markModel : EnvOK Tryd.prog ev_laws_markModel := EconsG (gen_of_den eo_laws_markBigramS mixed hb_laws_markBigramS) E0
theorem mk_laws_markModel : MarkGOK 2 1 (denFn Tryd.prog ev_laws_markModel n_laws_markModel) t_laws_markBigramS :=
  markG_of (g1 := n_laws_markBigramS) (env := ev_laws_markModel) (by simp [ev_laws_markModel, envL]) mk_laws_markBigramS fun cs x1 h => e_laws_markModel _ _ _ _

/-- The source has been read up to `k` at most. -/
structure SK (s : l00Src) (k : Int) : Prop where
  lo : 0 ≤ s.pos
  hi : s.pos ≤ k

theorem SK.mono {s : l00Src} {k k' : Int} (h : SK s k) (hk : k ≤ k') : SK s k' := ⟨h.lo, by have := h.hi; omega⟩

theorem wr_succ {k n : Nat} (h : k < n) (hn : n ≤ 4294967296) : wr ((k : Int) + 1) = ((k + 1 : Nat) : Int) := by
  rw [wr_id (by omega) (by omega)]
  omega

theorem get_lt {A : Type} {l : List A} {k : Nat} {a : A} (h : l[k]? = some a) : k < l.length := (List.getElem?_eq_some_iff.1 h).1

/-- A point that is one; the points of a stroke that is one. -/
structure PtV (p : Point) : Prop where
  x0 : 0 ≤ p.x
  x1 : p.x ≤ 4095
  y0 : 0 ≤ p.y
  y1 : p.y ≤ 4095
  t0 : 0 ≤ p.t
  t1 : p.t ≤ 3600000

structure StV (l : List Point) : Prop where
  pts : ∀ p ∈ l, PtV p
  inc : ∀ (k : Nat) p q, l[k]? = some p → l[k + 1]? = some q → p.t < q.t
  n1 : 1 ≤ l.length
  n2 : l.length ≤ 60

/-- Points of a bounded size. -/
structure PtB (p : Point) : Prop where
  x0 : -10000000 ≤ p.x
  x1 : p.x ≤ 10000000
  y0 : -10000000 ≤ p.y
  y1 : p.y ≤ 10000000
  t0 : -10000000 ≤ p.t
  t1 : p.t ≤ 10000000

structure StB (s : Stroke) : Prop where
  n : (s.points.getD []).length ≤ 100
  pts : ∀ p ∈ s.points.getD [], PtB p

theorem PtV.b {p : Point} (h : PtV p) : PtB p := by
  obtain ⟨h1, h2, h3, h4, h5, h6⟩ := h
  exact ⟨by omega, by omega, by omega, by omega, by omega, by omega⟩

theorem StV.b {l : List Point} (h : StV l) : StB ⟨some l⟩ := ⟨Nat.le_trans h.n2 (by omega), fun p hp => (h.pts p hp).b⟩

/-- Ink that is one. -/
structure InkV (L : List Stroke) : Prop where
  st : ∀ s ∈ L, ∃ l, s = ⟨some l⟩ ∧ StV l
  inc : ∀ (k : Nat) l l', L[k]? = some ⟨some l⟩ → L[k + 1]? = some ⟨some l'⟩ → ∀ p ∈ l, ∀ q ∈ l', p.t < q.t
  n : L.length ≤ 16

theorem InkV.b {L : List Stroke} (h : InkV L) : ∀ x ∈ L, StB x := fun x hx => by
  obtain ⟨l, rfl, hl⟩ := h.st x hx
  exact hl.b

theorem firstL_no {A R : Type} {f : Nat → A → Option R} : ∀ {l : List A} {k : Nat}, firstL f l k = none → ∀ i a, l[i]? = some a → f (k + i) a = none
  | [], _, _, i, a, ha => by simp at ha
  | b :: l, k, h, i, a, ha => by
    unfold firstL at h
    cases e : f k b with
    | some r => rw [e] at h; cases h
    | none =>
      rw [e] at h
      cases i with
      | zero =>
        simp only [List.getElem?_cons_zero, Option.some.injEq] at ha
        subst ha
        exact e
      | succ i =>
        have := firstL_no h i a (by simpa using ha)
        rw [← this]
        congr 1
        omega

theorem firstL_so {A R : Type} {f : Nat → A → Option R} : ∀ {l : List A} {k : Nat} {r : R}, firstL f l k = some r → ∃ i a, f i a = some r
  | [], _, _, h => by cases h
  | b :: l, k, r, h => by
    unfold firstL at h
    cases e : f k b with
    | some r' => rw [e] at h; cases h; exact ⟨k, b, e⟩
    | none => rw [e] at h; exact firstL_so h

def pt (l : List Point) (i : Nat) : Point := l.getD i ⟨0, 0, 0⟩

/-- One pair lies ahead of another. -/
def Pre (p q i j : Nat) : Prop := (i = p + 1 ∧ j = q + 1) ∨ (i = p + 1 ∧ j = q) ∨ (i = p ∧ j = q + 1)

/-- A path's cost, from the first pair on. -/
inductive Pth (C : Nat → Nat → Int) (R : Nat → Nat → Prop) : Nat → Nat → Int → Prop
  | start : R 0 0 → Pth C R 0 0 (C 0 0)
  | step {p q i j : Nat} {c : Int} : Pth C R p q c → Pre p q i j → R i j → Pth C R i j (c + C i j)

theorem Pth.mono {C D : Nat → Nat → Int} {R S : Nat → Nat → Prop} {i j : Nat} {c : Int} (h : Pth C R i j c) (hR : ∀ p q, p ≤ i → q ≤ j → R p q → S p q) (hC : ∀ p q, p ≤ i → q ≤ j → C p q = D p q) : Pth D S i j c := by
  induction h with
  | start h =>
    rw [hC 0 0 (Nat.le_refl _) (Nat.le_refl _)]
    exact .start (hR 0 0 (Nat.le_refl _) (Nat.le_refl _) h)
  | @step p q i j c h1 h2 h3 ih =>
    have hle : p ≤ i ∧ q ≤ j := by rcases h2 with h | h | h <;> omega
    rw [hC i j (Nat.le_refl _) (Nat.le_refl _)]
    exact .step (ih (fun a b h4 h5 => hR a b (by omega) (by omega)) (fun a b h4 h5 => hC a b (by omega) (by omega))) h2 (hR i j (Nat.le_refl _) (Nat.le_refl _) h3)

/-- A table's entry. -/
def Val (T : List (Sl Int)) (p q : Nat) (v : Int) : Prop := ∃ row, T[p]? = some (some row) ∧ row[q]? = some v

theorem Val.set {T : List (Sl Int)} {i j p q : Nat} {row : List Int} {v w : Int} (hr : T[i]? = some (some row)) (hj : j < row.length) :
    Val (T.set i (some (row.set j w))) p q v ↔ (p = i ∧ q = j ∧ v = w) ∨ (¬ (p = i ∧ q = j) ∧ Val T p q v) := by
  have hi := get_lt hr
  unfold Val
  constructor
  · rintro ⟨r, h1, h2⟩
    by_cases c : i = p
    · subst c
      rw [List.getElem?_set_self hi] at h1
      cases h1
      by_cases d : j = q
      · subst d
        rw [List.getElem?_set_self hj] at h2
        cases h2
        exact .inl ⟨rfl, rfl, rfl⟩
      · rw [List.getElem?_set_ne d] at h2
        exact .inr ⟨fun h => d h.2.symm, row, hr, h2⟩
    · rw [List.getElem?_set_ne c] at h1
      exact .inr ⟨fun h => c h.1.symm, r, h1, h2⟩
  · rintro (⟨rfl, rfl, rfl⟩ | ⟨hne, r, h1, h2⟩)
    · exact ⟨_, List.getElem?_set_self hi, List.getElem?_set_self hj⟩
    · by_cases c : i = p
      · subst c
        rw [hr] at h1
        cases h1
        have d : j ≠ q := fun h => hne ⟨rfl, h.symm⟩
        exact ⟨_, List.getElem?_set_self hi, by rw [List.getElem?_set_ne d]; exact h2⟩
      · exact ⟨r, by rw [List.getElem?_set_ne c]; exact h1, h2⟩

def PVal (T : List (Sl Part)) (p q : Nat) (v : Part) : Prop := ∃ row, T[p]? = some (some row) ∧ row[q]? = some v

theorem PVal.set {T : List (Sl Part)} {i j p q : Nat} {row : List Part} {v w : Part} (hr : T[i]? = some (some row)) (hj : j < row.length) :
    PVal (T.set i (some (row.set j w))) p q v ↔ (p = i ∧ q = j ∧ v = w) ∨ (¬ (p = i ∧ q = j) ∧ PVal T p q v) := by
  have hi := get_lt hr
  unfold PVal
  constructor
  · rintro ⟨r, h1, h2⟩
    by_cases c : i = p
    · subst c
      rw [List.getElem?_set_self hi] at h1
      cases h1
      by_cases d : j = q
      · subst d
        rw [List.getElem?_set_self hj] at h2
        cases h2
        exact .inl ⟨rfl, rfl, rfl⟩
      · rw [List.getElem?_set_ne d] at h2
        exact .inr ⟨fun h => d h.2.symm, row, hr, h2⟩
    · rw [List.getElem?_set_ne c] at h1
      exact .inr ⟨fun h => c h.1.symm, r, h1, h2⟩
  · rintro (⟨rfl, rfl, rfl⟩ | ⟨hne, r, h1, h2⟩)
    · exact ⟨_, List.getElem?_set_self hi, List.getElem?_set_self hj⟩
    · by_cases c : i = p
      · subst c
        rw [hr] at h1
        cases h1
        have d : j ≠ q := fun h => hne ⟨rfl, h.symm⟩
        exact ⟨_, List.getElem?_set_self hi, by rw [List.getElem?_set_ne d]; exact h2⟩
      · exact ⟨r, by rw [List.getElem?_set_ne c]; exact h1, h2⟩

def d2 (a b : Point) : Int := (a.x - b.x) * (a.x - b.x) + (a.y - b.y) * (a.y - b.y)

def pbox (p : Point) : Box := ⟨p.x, p.y, p.x, p.y⟩

/-- One box is in another one. -/
structure InB (a b : Box) : Prop where
  x1 : b.x1 ≤ a.x1
  y1 : b.y1 ≤ a.y1
  x2 : a.x2 ≤ b.x2
  y2 : a.y2 ≤ b.y2

theorem InB.refl (a : Box) : InB a a := ⟨Int.le_refl _, Int.le_refl _, Int.le_refl _, Int.le_refl _⟩

theorem InB.trans {a b c : Box} (h : InB a b) (g : InB b c) : InB a c := ⟨Int.le_trans g.x1 h.x1, Int.le_trans g.y1 h.y1, Int.le_trans h.x2 g.x2, Int.le_trans h.y2 g.y2⟩

theorem PtV.box {p : Point} (h : PtV p) : InB (pbox p) ⟨0, 0, 4095, 4095⟩ := ⟨h.x0, h.y0, h.x1, h.y1⟩

def side (b : Box) : Int := max (max (b.x2 - b.x1) (b.y2 - b.y1)) 1

def fSy (_ : Nat) (b : Symbol) : Option Bool := bif !okSym b then some false else none

/-- The symbols are valid. -/
def okSys (l : List Symbol) : Bool := match firstL fSy l 0 with
  | none => decide (l.length ≤ 8)
  | some r => r

theorem fSy_some {l : List Symbol} {r : Bool} {k : Nat} (h : firstL fSy l k = some r) : r = false := by
  obtain ⟨i, a, hf⟩ := firstL_so h
  unfold fSy at hf
  cases h2 : okSym a <;> rw [h2] at hf <;> cases hf
  rfl

theorem validSys_ok (s : Sl Symbol) (hl : (s.getD []).length ≤ 4294967296) : t_impl_ValidSymbols s = some (okSys (s.getD [])) := by
  have lp := loopT_first (step := s0_slices_IndexFunc_impl_Symbol_impl_Symbol (fun a => some ((fun b : Symbol => !okSym b) a)) s) (s.getD []) (fun k a => bif !okSym a then some (k : Int) else none) (.inl ()) .inr
    (fun k a ha => by
      have hk := get_lt ha
      have c : (k : Int) < (((s.getD []).length : Nat) : Int) := by omega
      unfold s0_slices_IndexFunc_impl_Symbol_impl_Symbol
      simp only [c, decide_true, cond_true, getI_nat ha, obind_sm, wr_succ hk hl]
      cases okSym a <;> rfl)
    (by
      unfold s0_slices_IndexFunc_impl_Symbol_impl_Symbol
      simp only [Int.lt_irrefl, decide_false, cond_false])
  have key : ∀ (l : List Symbol) (k : Nat), (firstL (fun (k : Nat) a => bif !okSym a then some (k : Int) else none) l k = none ∧ firstL fSy l k = none) ∨ ∃ r, firstL (fun (k : Nat) a => bif !okSym a then some (k : Int) else none) l k = some r ∧ 0 ≤ r ∧ firstL fSy l k = some false := by
    intro l
    induction l with
    | nil => intro k; exact .inl ⟨rfl, rfl⟩
    | cons a l ih =>
      intro k
      unfold firstL fSy
      cases e : okSym a with
      | true =>
        simp only [Bool.not_true, cond_false]
        exact ih (k + 1)
      | false => exact .inr ⟨(k : Int), rfl, by omega, rfl⟩
  have cf : t_slices_ContainsFunc_impl_Symbol_impl_Symbol (fun a => some ((fun s : Symbol => !okSym s) a)) s = some (firstL fSy (s.getD []) 0).isSome := by
    unfold t_slices_ContainsFunc_impl_Symbol_impl_Symbol t_slices_IndexFunc_impl_Symbol_impl_Symbol
    rw [lp]
    rcases key (s.getD []) 0 with ⟨h1, h2⟩ | ⟨r, h1, h2, h3⟩
    · rw [h1, h2]
      simp
    · rw [h1, h3]
      simp [h2]
  have d : decide ((((s.getD []).length : Nat) : Int) ≤ 8) = decide ((s.getD []).length ≤ 8) := decide_eq_decide.2 (by omega)
  unfold t_impl_ValidSymbols okSys
  rw [cf, d]
  cases h : firstL fSy (s.getD []) 0 with
  | none => cases decide ((s.getD []).length ≤ 8) <;> rfl
  | some r =>
    have := fSy_some h
    subst this
    cases decide ((s.getD []).length ≤ 8) <;> rfl

theorem okSys_len {l : List Symbol} (h : okSys l = true) : l.length ≤ 8 := by
  unfold okSys at h
  cases e : firstL fSy l 0 with
  | some r =>
    rw [e] at h
    simp only at h
    rw [fSy_some e] at h
    cases h
  | none =>
    rw [e] at h
    exact of_decide_eq_true h

/-- The digits of a number; none for 0. -/
def digs (m : Nat) : List UInt8 := if m = 0 then [] else Lib.decDigits m

theorem digs_step {m : Nat} (h : 0 < m) : digs m = digs (m / 10) ++ [UInt8.ofNat (48 + m % 10)] := by
  unfold digs
  rw [if_neg (by omega)]
  by_cases c : m < 10
  · rw [Lib.decDigits, dif_pos c, if_pos (by omega), Nat.mod_eq_of_lt c]
    rfl
  · rw [Lib.decDigits, dif_neg c, if_neg (by omega)]

theorem byteI_small {n : Nat} (h : n < 256) : byteI (n : Int) = UInt8.ofNat n := by
  have h1 : IntKind.u8.wrap (n : Int) = (n : Int) := by
    simp only [IntKind.wrap, IntKind.bits, IntKind.signed]
    simp only [Bool.false_and, Bool.false_eq_true, if_false]
    omega
  unfold byteI
  rw [h1]
  simp [Nat.toUInt8]

theorem decLoop : ∀ (f : Nat) (k : Int) (w : Sl UInt8), k.natAbs < 10 ^ f → -9223372036854775808 ≤ k → k ≤ 9223372036854775807 → (w.getD []).length + f ≤ 1000 → ∃ q, loopT s0_spec_l01Dec (w, k) = some q ∧ q.getD [] = digs k.natAbs ++ w.getD [] := by
  intro f
  induction f with
  | zero =>
    intro k w h _ _ _
    have hk : k = 0 := by simp at h; omega
    subst hk
    exact ⟨w, loopT_end (by unfold s0_spec_l01Dec; simp), by simp [digs]⟩
  | succ f ih =>
    intro k w h h1 h2 h3
    by_cases hk : k = 0
    · subst hk
      exact ⟨w, loopT_end (by unfold s0_spec_l01Dec; simp), by simp [digs]⟩
    · have hp : 10 ^ (f + 1) = 10 * 10 ^ f := by rw [Nat.pow_succ, Nat.mul_comm]
      obtain ⟨m, hm⟩ : ∃ m, k.natAbs = m := ⟨_, rfl⟩
      have m0 : 0 < m := by omega
      have ds := digs_step m0
      have bs := byteI_small (n := 48 + m % 10) (by omega)
      have hb : (((48 + m % 10 : Nat) : Int)) = 48 + ((m % 10 : Nat) : Int) := by omega
      have ap : appO (some ([UInt8.ofNat (48 + m % 10)] : List UInt8)) (w.getD []) = some (appS (some [UInt8.ofNat (48 + m % 10)]) (w.getD [])) := appO_some (by simp; omega)
      have d0 : decide (k = 0) = false := decide_eq_false hk
      have go : ∀ k' : Int, k'.natAbs = m / 10 → -9223372036854775808 ≤ k' → k' ≤ 9223372036854775807 → s0_spec_l01Dec (w, k) = some (.inl (appS (some [UInt8.ofNat (48 + m % 10)]) (w.getD []), k')) → ∃ q, loopT s0_spec_l01Dec (w, k) = some q ∧ q.getD [] = digs k.natAbs ++ w.getD [] := by
        intro k' e1 e2 e3 e4
        rw [loopT_next e4]
        obtain ⟨q, q1, q2⟩ := ih k' (appS (some [UInt8.ofNat (48 + m % 10)]) (w.getD [])) (by omega) e2 e3 (by rw [appS_getD]; simp; omega)
        refine ⟨q, q1, ?_⟩
        rw [q2, appS_getD, e1, hm, ds]
        simp
      rcases Int.natAbs_eq k with e | e
      · rw [hm] at e
        have t1 : Int.tmod k 10 = ((m % 10 : Nat) : Int) := by rw [e]; exact (Int.ofNat_tmod m 10).symm
        have t2 : Int.tdiv k 10 = ((m / 10 : Nat) : Int) := by rw [e]; exact (Int.ofNat_tdiv m 10).symm
        refine go ((m / 10 : Nat) : Int) (by omega) (by omega) (by omega) ?_
        have c1 : decide (((m % 10 : Nat) : Int) < 0) = false := decide_eq_false (by omega)
        unfold s0_spec_l01Dec
        simp only [d0, Bool.not_false, cond_true, t1, t2, c1, cond_false]
        rw [wr_id (by omega) (by omega), wr_id (by omega) (by omega), ← hb, bs, ap]
        rfl
      · rw [hm] at e
        have t1 : Int.tmod k 10 = -((m % 10 : Nat) : Int) := by rw [e, Int.neg_tmod]; exact congrArg _ (Int.ofNat_tmod m 10).symm
        have t2 : Int.tdiv k 10 = -((m / 10 : Nat) : Int) := by rw [e, Int.neg_tdiv]; exact congrArg _ (Int.ofNat_tdiv m 10).symm
        refine go (-((m / 10 : Nat) : Int)) (by omega) (by omega) (by omega) ?_
        unfold s0_spec_l01Dec
        simp only [d0, Bool.not_false, cond_true, t1, t2]
        have wq : wr (-((m / 10 : Nat) : Int)) = -((m / 10 : Nat) : Int) := wr_id (by omega) (by omega)
        rw [wq]
        by_cases c : m % 10 = 0
        · have c1 : decide (-((m % 10 : Nat) : Int) < 0) = false := decide_eq_false (by omega)
          have w1 : wr (48 + -((m % 10 : Nat) : Int)) = ((48 + m % 10 : Nat) : Int) := by rw [wr_id (by omega) (by omega)]; omega
          rw [c1, cond_false, w1, bs, ap]
          rfl
        · have c1 : decide (-((m % 10 : Nat) : Int) < 0) = true := decide_eq_true (by omega)
          have w0 : wr (0 - -((m % 10 : Nat) : Int)) = ((m % 10 : Nat) : Int) := by rw [wr_id (by omega) (by omega)]; omega
          have w1 : wr (48 + ((m % 10 : Nat) : Int)) = ((48 + m % 10 : Nat) : Int) := by rw [wr_id (by omega) (by omega)]; omega
          rw [c1, cond_true, w0, w1, bs, ap]
          rfl

theorem strL_app (a b : List UInt8) : strL a ++ strL b = strL (a ++ b) := by
  unfold strL
  apply ByteArray.ext
  simp

theorem strL_size (a : List UInt8) : (strL a).size = a.length := by
  unfold strL
  rfl

theorem bl_strL (a : List UInt8) : bl (strL a) = a := by simp [bl, strL]

theorem strL_bl (s : ByteArray) : strL (bl s) = s := by
  unfold strL bl
  rfl

theorem catO_some {a b : ByteArray} (h : a.size + b.size ≤ 4294967296) : catO a b = some (a ++ b) := by
  unfold catO
  rw [if_pos (by omega)]

theorem digs_len : ∀ (f m : Nat), m < 10 ^ f → (digs m).length ≤ f
  | 0, m, h => by
    have : m = 0 := by simp at h; omega
    subst this
    simp [digs]
  | f + 1, m, h => by
    have hp : 10 ^ (f + 1) = 10 * 10 ^ f := by rw [Nat.pow_succ, Nat.mul_comm]
    by_cases m0 : m = 0
    · subst m0; simp [digs]
    · have := digs_len f (m / 10) (by omega)
      rw [digs_step (by omega)]
      simp
      omega

theorem digs_pos {m : Nat} (h : 0 < m) : 0 < (digs m).length := by
  rw [digs_step h]
  simp

theorem l01Dec_ok {n : Int} (h0 : -9223372036854775808 ≤ n) (h1 : n ≤ 9223372036854775807) : t_spec_l01Dec n = some (itS n) ∧ (itS n).size ≤ 20 := by
  obtain ⟨q, q1, q2⟩ := decLoop 19 n (some []) (by omega) h0 h1 (by simp)
  rw [Option.getD_some, List.append_nil] at q2
  have dl := digs_len 19 n.natAbs (by omega)
  unfold t_spec_l01Dec
  rw [q1, obind_sm, q2]
  by_cases c : n = 0
  · subst c
    refine ⟨?_, ?_⟩
    · have e : digs (Int.natAbs 0) = [] := rfl
      rw [e]
      have e2 : itS 0 = (⟨#[48]⟩ : ByteArray) := by
        unfold itS Lib.itoa
        rw [if_neg (by decide), Lib.decDigits, dif_pos (by decide)]
        rfl
      rw [e2]
      rfl
    · have e2 : itS 0 = (⟨#[48]⟩ : ByteArray) := by
        unfold itS Lib.itoa
        rw [if_neg (by decide), Lib.decDigits, dif_pos (by decide)]
        rfl
      rw [e2]
      decide
  · have p := digs_pos (m := n.natAbs) (by omega)
    have d1 : decide ((((digs n.natAbs).length : Nat) : Int) = 0) = false := decide_eq_false (by omega)
    have dd : digs n.natAbs = Lib.decDigits n.natAbs := by unfold digs; rw [if_neg (by omega)]
    rw [d1, cond_false]
    by_cases c2 : n < 0
    · have e2 : itS n = strL (45 :: digs n.natAbs) := by
        unfold itS Lib.itoa
        rw [if_pos c2, dd]
      have e3 : (⟨#[45]⟩ : ByteArray) = strL [45] := rfl
      rw [decide_eq_true c2, cond_true, e3, catO_some (by rw [strL_size, strL_size]; simp; omega), strL_app, obind_sm, e2]
      exact ⟨rfl, by rw [strL_size]; simp; omega⟩
    · have e2 : itS n = strL (digs n.natAbs) := by
        unfold itS Lib.itoa
        rw [if_neg c2, dd]
        have : n.toNat = n.natAbs := by omega
        rw [this]
      rw [decide_eq_false c2, cond_false, e2]
      exact ⟨rfl, by rw [strL_size]; omega⟩

theorem decimal_ok {n : Int} (h0 : -9223372036854775808 ≤ n) (h1 : n ≤ 9223372036854775807) : t_impl_Decimal n = some (itS n) := by
  unfold t_impl_Decimal fmtO
  rw [decide_eq_true h0, decide_eq_true h1]
  rfl

/-- All elements are alike. -/
theorem eqLoop {step : Int → Option (Sum Int (Sum Unit Bool))} (n : Nat) (hn : n ≤ 4294967296) (next : ∀ k : Nat, k < n → step (k : Int) = some (.inl (wr ((k : Int) + 1)))) (fin : step ((n : Nat) : Int) = some (.inr (.inl ()))) : loopT step 0 = some (.inl ()) := by
  obtain ⟨r, h1, h2⟩ := loopT_ex (step := step) (fun k t => t = (k : Int)) n (fun r => r = .inl ())
    (fun k t hk ht => by
      subst ht
      have e := next k hk
      rw [wr_succ hk hn] at e
      exact .inl ⟨_, e, rfl⟩)
    (fun t ht => by
      subst ht
      exact ⟨_, fin, rfl⟩) (s := 0) rfl
  rw [h1, h2]

theorem eqBigramS_ok {a b : Sl Bigram} (h : a.getD [] = b.getD []) (hl : (a.getD []).length ≤ 4294967296) : t_laws_eqBigramS a b = some true := by
  have lp := eqLoop (step := s0_laws_eqBigramS a b) (a.getD []).length hl (fun k hk => by
      have c : (k : Int) < ((a.getD []).length : Nat) := by omega
      obtain ⟨x, hx⟩ : ∃ x, (a.getD [])[k]? = some x := ⟨_, List.getElem?_eq_getElem hk⟩
      unfold s0_laws_eqBigramS
      simp only [c, decide_true, cond_true, getI_nat hx, ← h, obind_sm, Bool.not_true, cond_false])
    (by
      unfold s0_laws_eqBigramS
      simp only [Int.lt_irrefl, decide_false, cond_false])
  unfold t_laws_eqBigramS
  rw [lp, ← h]
  simp

/-! ### Valid lattices, lexicons and models -/
theorem bytesO_some {s : ByteArray} (h : s.size ≤ 4294967296) : bytesO s = some (bl s) := by
  unfold bytesO
  rw [if_pos h]

theorem getB_bl {s : ByteArray} {k : Nat} {b : UInt8} (h : (bl s)[k]? = some b) : getB s (k : Int) = some b := getI_nat h

def fLow (_ : Nat) (b : UInt8) : Option Bool := bif !isLow b then some false else none

theorem fLow_all : ∀ (l : List UInt8) (k : Nat), firstL fLow l k = bif l.all isLow then none else some false
  | [], _ => rfl
  | b :: l, k => by
    unfold firstL fLow
    rw [List.all_cons]
    cases e : isLow b with
    | false => rfl
    | true =>
      have := fLow_all l (k + 1)
      unfold fLow at this
      simpa using this

theorem implWord_ok {s : ByteArray} (h : s.size ≤ 4294967296) : t_impl_IsWord s = some (isWord s) := by
  have hl : (bl s).length ≤ 4294967296 := by rw [bl_len]; exact h
  have lp := loopT_first (step := s0_impl_IsWord (bl s)) (bl s) fLow (.inl ()) .inr
    (fun k a ha => by
      have hk := get_lt ha
      have c : (k : Int) < (((bl s).length : Nat) : Int) := by omega
      unfold s0_impl_IsWord fLow
      simp only [Option.getD_some, c, decide_true, cond_true, getI_nat ha, obind_sm, wr_succ hk hl]
      cases isLow a <;> rfl)
    (by
      unfold s0_impl_IsWord
      simp only [Option.getD_some, Int.lt_irrefl, decide_false, cond_false])
  rw [fLow_all] at lp
  unfold t_impl_IsWord isWord
  rw [bytesO_some h, obind_sm, lp]
  have d1 : decide (1 ≤ (s.size : Int)) = decide (1 ≤ s.size) := decide_eq_decide.2 (by omega)
  have d2 : decide ((s.size : Int) ≤ 10) = decide (s.size ≤ 10) := decide_eq_decide.2 (by omega)
  rw [d1, d2]
  cases (bl s).all isLow with
  | false => rfl
  | true => cases decide (1 ≤ s.size) <;> rfl

theorem specWord_ok {s : ByteArray} (h : s.size ≤ 4294967296) : t_spec_IsWord s = some (isWord s) := by
  have hl : (bl s).length ≤ 4294967296 := by rw [bl_len]; exact h
  have lp := loopT_first (step := s0_spec_IsWord s) (bl s) fLow (.inl ()) .inr
    (fun k a ha => by
      have hk := get_lt ha
      have c : (k : Int) < (s.size : Int) := by rw [bl_len] at hk; omega
      unfold s0_spec_IsWord fLow
      simp only [c, decide_true, cond_true, getB_bl ha, obind_sm, wr_succ hk hl]
      cases isLow a <;> rfl)
    (by
      unfold s0_spec_IsWord
      rw [bl_len]
      simp only [Int.lt_irrefl, decide_false, cond_false])
  rw [fLow_all] at lp
  unfold t_spec_IsWord isWord
  rw [lp]
  have d1 : within (s.size : Int) 1 10 = (decide (1 ≤ s.size) && decide (s.size ≤ 10)) := by
    unfold within
    congr 1 <;> exact decide_eq_decide.2 (by omega)
  rw [d1]
  cases (bl s).all isLow with
  | false => rfl
  | true => rfl

/-- A list is checked from the front, each element against the one ahead of it. -/
def fAdj {A : Type} (ok : A → Bool) (lt : A → A → Bool) (l : List A) (k : Nat) (a : A) : Option Bool :=
  bif ok a && (decide (k = 0) || (match l[k - 1]? with | some b => lt b a | none => true)) then none else some false

/-- .. what the check says: all elements are well, and each is behind the one ahead of it. -/
def adj {A : Type} (ok : A → Bool) (lt : A → A → Bool) (l : List A) : Bool := match firstL (fAdj ok lt l) l 0 with
  | none => true
  | some r => r

theorem firstL_false {A : Type} {f : Nat → A → Option Bool} (hf : ∀ k a r, f k a = some r → r = false) {l : List A} {k : Nat} {r : Bool} (h : firstL f l k = some r) : r = false := by
  obtain ⟨i, a, e⟩ := firstL_so h
  exact hf _ _ _ e

theorem fAdj_false {A : Type} {ok : A → Bool} {lt : A → A → Bool} {l : List A} {k : Nat} {a : A} {r : Bool} (h : fAdj ok lt l k a = some r) : r = false := by
  unfold fAdj at h
  split at h <;> (cases h' : (ok a && _) <;> rw [h'] at h <;> cases h; rfl)

theorem adjLoop {A : Type} (ok : A → Bool) (lt : A → A → Bool) (l : List A) (hl : l.length ≤ 4294967296) {step : Int → Option (Sum Int (Sum Unit Bool))}
    (next : ∀ (k : Nat) a, l[k]? = some a → (∀ b, 0 < k → l[k - 1]? = some b → True) → step (k : Int) = some (bif ok a && (decide (k = 0) || (match l[k - 1]? with | some b => lt b a | none => true)) then .inl (wr ((k : Int) + 1)) else .inr (.inr false)))
    (fin : step ((l.length : Nat) : Int) = some (.inr (.inl ()))) : loopT step 0 = some (bif adj ok lt l then .inl () else .inr false) := by
  have lp := loopT_first (step := step) l (fAdj ok lt l) (.inl ()) .inr
    (fun k a ha => by
      have hk := get_lt ha
      have e := next k a ha fun _ _ _ => trivial
      rw [wr_succ hk hl] at e
      rw [e]
      unfold fAdj
      cases (ok a && (decide (k = 0) || (match l[k - 1]? with | some b => lt b a | none => true))) <;> rfl) fin
  rw [lp]
  unfold adj
  cases e : firstL (fAdj ok lt l) l 0 with
  | none => rfl
  | some r =>
    have := firstL_false (fun k a r => fAdj_false) e
    subst this
    rfl

theorem adj_all {A : Type} {ok : A → Bool} {lt : A → A → Bool} {l : List A} (h : adj ok lt l = true) : (∀ a ∈ l, ok a = true) ∧ ∀ (k : Nat) a b, l[k]? = some a → l[k + 1]? = some b → lt a b = true := by
  have hn : firstL (fAdj ok lt l) l 0 = none := by
    unfold adj at h
    cases e : firstL (fAdj ok lt l) l 0 with
    | none => rfl
    | some r =>
      rw [e] at h
      have := firstL_false (fun k a r => fAdj_false) e
      subst this
      cases h
  have key := firstL_no hn
  have k2 : ∀ (i : Nat) a, l[i]? = some a → (ok a && (decide (i = 0) || (match l[i - 1]? with | some b => lt b a | none => true))) = true := fun i a ha => by
    have := key i a ha
    rw [Nat.zero_add] at this
    unfold fAdj at this
    cases e : (ok a && (decide (i = 0) || (match l[i - 1]? with | some b => lt b a | none => true))) with
    | true => rfl
    | false => rw [e] at this; cases this
  refine ⟨fun a ha => ?_, fun k a b ha hb => ?_⟩
  · obtain ⟨i, hi⟩ := List.mem_iff_getElem?.1 ha
    have := k2 i a hi
    rw [Bool.and_eq_true] at this
    exact this.1
  · have := k2 (k + 1) b hb
    rw [Nat.add_sub_cancel, ha] at this
    simp at this
    exact this.2

/-! ### Models and lattices -/
theorem pred_getA {A : Type} {l : List A} {k : Nat} (h0 : k ≠ 0) (hk : k < l.length) (hl : l.length ≤ 4294967296) : ∃ b, l[k - 1]? = some b ∧ getI l (wr ((k : Int) - 1)) = some b := by
  obtain ⟨b, hb⟩ : ∃ b, l[k - 1]? = some b := ⟨_, List.getElem?_eq_getElem (by omega)⟩
  refine ⟨b, hb, ?_⟩
  have : wr ((k : Int) - 1) = ((k - 1 : Nat) : Int) := by rw [wr_id (by omega) (by omega)]; omega
  rw [this]
  exact getI_nat hb

theorem implBig_ok {b : Bigram} (h1 : b.first.size ≤ 4294967296) (h2 : b.second.size ≤ 4294967296) : t_impl_validBigram b = some (validBigram b) := by
  unfold t_impl_validBigram validBigram isFirst
  rw [implWord_ok h1, implWord_ok h2]
  cases isWord b.second <;> cases decide (b.first = (⟨#[]⟩ : ByteArray)) <;> cases isWord b.first <;> rfl

theorem specFirst_ok {s : ByteArray} (h1 : s.size ≤ 4294967296) : t_spec_l18First s = some (isFirst s) := by
  unfold t_spec_l18First isFirst
  rw [specWord_ok h1]
  cases decide (s = (⟨#[]⟩ : ByteArray)) <;> rfl

theorem specBig_ok {b : Bigram} (h1 : b.first.size ≤ 4294967296) (h2 : b.second.size ≤ 4294967296) : t_spec_l18Bigram b = some (validBigram b) := by
  unfold t_spec_l18Bigram validBigram
  rw [specFirst_ok h1, specWord_ok h2]
  cases isWord b.second <;> cases isFirst b.first <;> rfl

theorem specBefore_ok (a b : Bigram) : t_spec_l18Before a b = some (before a b) := by
  unfold t_spec_l18Before before
  cases ltS a.first b.first <;> cases decide (a.first = b.first) <;> rfl

def modB (m : Model) : Bool := adj validBigram before (m.bigrams.getD []) && (within m.default 0 1000000 && decide ((m.bigrams.getD []).length ≤ 60))

def smallBigs (m : Model) : Prop := (m.bigrams.getD []).length ≤ 4294967296 ∧ ∀ b ∈ m.bigrams.getD [], b.first.size ≤ 4294967296 ∧ b.second.size ≤ 4294967296

theorem implMod_ok {m : Model} (hs : smallBigs m) : t_impl_ValidModel m = some (modB m) := by
  obtain ⟨hl, hw⟩ := hs
  have lp := adjLoop validBigram before (m.bigrams.getD []) hl (step := s0_impl_ValidModel m) (fun k a ha _ => by
      have hk := get_lt ha
      have c : (k : Int) < (((m.bigrams.getD []).length : Nat) : Int) := by omega
      have w := implBig_ok (hw a (List.mem_of_getElem? ha)).1 (hw a (List.mem_of_getElem? ha)).2
      unfold s0_impl_ValidModel
      simp only [c, decide_true, cond_true, getI_nat ha, obind_sm, w]
      cases validBigram a with
      | false => rfl
      | true =>
        by_cases k0 : k = 0
        · subst k0
          rfl
        · obtain ⟨b, hb, gb⟩ := pred_getA k0 hk hl
          have d : decide ((0 : Int) < (k : Int)) = true := decide_eq_true (by omega)
          have d2 : decide (k = 0) = false := decide_eq_false k0
          simp only [Bool.not_true, cond_false, obind_sm, d, d2, Bool.not_false, Bool.and_self, cond_true, gb, hb, Bool.true_and, Bool.false_or, cmpB_before]
          cases before b a <;> rfl)
    (by
      unfold s0_impl_ValidModel
      simp only [Int.lt_irrefl, decide_false, cond_false])
  unfold t_impl_ValidModel modB
  rw [lp]
  have d : decide ((((m.bigrams.getD []).length : Nat) : Int) ≤ 60) = decide ((m.bigrams.getD []).length ≤ 60) := decide_eq_decide.2 (by omega)
  rw [d]
  cases adj validBigram before (m.bigrams.getD []) with
  | false => rfl
  | true =>
    simp only [cond_true, obind_sm, Bool.true_and]
    cases within m.default 0 1000000 <;> rfl

theorem specMod_ok {m : Model} (hs : smallBigs m) : t_spec_l18Ok m = some (modB m) := by
  obtain ⟨hl, hw⟩ := hs
  have lp := adjLoop validBigram before (m.bigrams.getD []) hl (step := s0_spec_l18Ok m) (fun k a ha _ => by
      have hk := get_lt ha
      have c : (k : Int) < (((m.bigrams.getD []).length : Nat) : Int) := by omega
      have w := specBig_ok (hw a (List.mem_of_getElem? ha)).1 (hw a (List.mem_of_getElem? ha)).2
      unfold s0_spec_l18Ok
      simp only [c, decide_true, cond_true, getI_nat ha, obind_sm, w]
      cases validBigram a with
      | false => rfl
      | true =>
        by_cases k0 : k = 0
        · subst k0
          rfl
        · obtain ⟨b, hb, gb⟩ := pred_getA k0 hk hl
          have d : decide ((0 : Int) < (k : Int)) = true := decide_eq_true (by omega)
          have d2 : decide (k = 0) = false := decide_eq_false k0
          simp only [Bool.not_true, cond_false, obind_sm, d, d2, Bool.not_false, Bool.and_self, cond_true, gb, hb, Bool.true_and, Bool.false_or, specBefore_ok]
          cases before b a <;> rfl)
    (by
      unfold s0_spec_l18Ok
      simp only [Int.lt_irrefl, decide_false, cond_false])
  unfold t_spec_l18Ok modB
  rw [lp]
  have d : decide ((((m.bigrams.getD []).length : Nat) : Int) ≤ 60) = decide ((m.bigrams.getD []).length ≤ 60) := decide_eq_decide.2 (by omega)
  rw [d]
  cases adj validBigram before (m.bigrams.getD []) with
  | false => rfl
  | true =>
    simp only [cond_true, obind_sm, Bool.true_and]
    cases within m.default 0 1000000 <;> rfl

/-! ### The cost of a text in a lattice: the least cost of a path -/
inductive Wy (E : List Edg) (lab : Nat → ByteArray) : Nat → Nat → Int → Prop
  | start : Wy E lab 0 0 0
  | step {k u v : Nat} {c : Int} {i : Nat} {e : Edg} : Wy E lab k u c → E[i]? = some e → e.frm = (u : Int) → e.upto = (v : Int) → e.label = lab k → Wy E lab (k + 1) v (c + e.cost)

theorem set_upd {L : List Int} {v : Nat} {x y : Int} (h : L[v]? = some x) (i : Nat) : (L.set v y)[i]? = if i = v then some y else L[i]? := by
  by_cases e : i = v
  · subst e
    rw [if_pos rfl, List.getElem?_set_self (get_lt h)]
  · rw [if_neg e, List.getElem?_set_ne (fun k => e k.symm)]

/-- .. what the first j edges tell of the next row. -/
def Nxt (E : List Edg) (lab : Nat → ByteArray) (k j : Nat) (v : Nat) (c : Int) : Prop := ∃ i e u c', i < j ∧ E[i]? = some e ∧ e.frm = ((u : Nat) : Int) ∧ e.upto = (v : Int) ∧ e.label = lab k ∧ Wy E lab k u c' ∧ c = c' + e.cost

theorem Nxt.all {E : List Edg} {lab : Nat → ByteArray} {k v : Nat} {c : Int} : Nxt E lab k E.length v c ↔ Wy E lab (k + 1) v c := by
  constructor
  · rintro ⟨i, e, u, c', _, he, hf, hu, hl, hw, rfl⟩
    exact .step hw he hf hu hl
  · intro h
    cases h with
    | step hw he hf hu hl => exact ⟨_, _, _, _, get_lt he, he, hf, hu, hl, hw, rfl⟩

/-- A cell's cost is at most c. -/
def Cap (n : Nat) (L : List Int) (v k : Nat) (c : Int) : Prop := ∃ x, L[v * (n + 1) + k]? = some x ∧ 0 ≤ x ∧ x ≤ c

theorem Cap.mono {n : Nat} {L : List Int} {v k m : Nat} {c x y : Int} (h : Cap n L v k c) (hx : L[m]? = some x) (hy : x < 0 ∨ y < x) (h0 : 0 ≤ y) : Cap n (L.set m y) v k c := by
  obtain ⟨z, h1, h2, h3⟩ := h
  unfold Cap
  rw [set_upd hx]
  by_cases e : v * (n + 1) + k = m
  · rw [if_pos e]
    rw [e, hx] at h1
    cases h1
    exact ⟨y, rfl, h0, by omega⟩
  · rw [if_neg e]
    exact ⟨z, h1, h2, h3⟩

/-! ### Sets of symbols as numbers; sums -/
theorem wr_shift (x q : Int) : wr (x + 18446744073709551616 * q) = wr x := by
  simp only [wr, IntKind.wrap, IntKind.bits, IntKind.signed]
  first | omega | (simp; done)

theorem wr_mod (x : Int) : ∃ q, wr x = x + 18446744073709551616 * q := by
  have h : ∃ q, wr x = x - 18446744073709551616 * q := by
    simp only [wr, IntKind.wrap, IntKind.bits, IntKind.signed]
    by_cases h : x % 18446744073709551616 ≥ 9223372036854775808
    · exact ⟨x / 18446744073709551616 + 1, by simp [h]; omega⟩
    · exact ⟨x / 18446744073709551616, by simp [h]; omega⟩
  obtain ⟨q, hq⟩ := h
  exact ⟨-q, by rw [hq]; omega⟩

theorem wr_add_l (x y : Int) : wr (wr x + y) = wr (x + y) := by
  obtain ⟨q, h⟩ := wr_mod x
  rw [h, show x + 18446744073709551616 * q + y = x + y + 18446744073709551616 * q by omega, wr_shift]

def upd (base : Nat → Int) (S : Nat) (x : Int) (v : Nat) : Int := if v = S then x else base v

theorem upd_self (base : Nat → Int) (S : Nat) (x : Int) : upd base S x S = x := if_pos rfl

theorem upd_ne {base : Nat → Int} {S v : Nat} (x : Int) (h : v ≠ S) : upd base S x v = base v := if_neg h

structure PI (l : Sl Symbol) (n : Nat) (bx : Nat → Box) (c : Nat → Int) (p : Parser) : Prop where
  list : p.list = l
  boxes : ∀ v, v < n → (p.boxes.getD [])[v]? = some (bx v)
  best : (p.best.getD []).length = n
  clen : (p.count.getD []).length = n
  count : ∀ v, v < n → (p.count.getD [])[v]? = some (c v)

structure CI (l : Sl Symbol) (n : Nat) (bx : Nat → Box) (c : Nat → Int) (p : Chart21) : Prop where
  list : p.list = l
  len : (p.cells.getD []).length = n
  cells : ∀ v, v < n → ∃ x, (p.cells.getD [])[v]? = some x ∧ x.box = bx v ∧ x.ways = c v

theorem setS_look {A : Type} {s : Sl A} {v : Nat} {x y : A} (h : (s.getD [])[v]? = some x) (i : Nat) : ((setS s (v : Int) y).getD [])[i]? = if i = v then some y else (s.getD [])[i]? := by
  cases s with
  | none => simp at h
  | some l =>
    show (l.set ((v : Int).toNat) y)[i]? = if i = v then some y else l[i]?
    rw [Int.toNat_natCast]
    have h' : l[v]? = some x := h
    by_cases e : i = v
    · subst e
      rw [if_pos rfl, List.getElem?_set_self (get_lt h')]
    · rw [if_neg e, List.getElem?_set_ne (fun k => e k.symm)]

theorem PI.add {l : Sl Symbol} {n : Nat} {bx : Nat → Box} {base : Nat → Int} {S : Nat} {X Y : Int} {p : Parser} (h : PI l n bx (upd base S (wr X)) p) (hS : S < n) (q : Sl Choice) (hq : (q.getD []).length = n) : PI l n bx (upd base S (wr (X + Y))) ⟨p.list, p.boxes, q, setS p.count (S : Int) (wr (wr X + Y))⟩ := by
  have hs := h.count S hS
  refine ⟨h.list, h.boxes, hq, by show ((setS p.count (S : Int) _).getD []).length = n; rw [setS_len]; exact h.clen, fun v hv => ?_⟩
  show ((setS p.count (S : Int) _).getD [])[v]? = _
  rw [setS_look hs]
  by_cases e : v = S
  · subst e
    rw [if_pos rfl, upd_self, wr_add_l]
  · rw [if_neg e, upd_ne _ e, h.count v hv, upd_ne _ e]

/-! ### One way, the reference's side; all divisions of a set, on both sides -/
theorem CI.add {l : Sl Symbol} {n : Nat} {bx : Nat → Box} {base : Nat → Int} {S : Nat} {X Y Z : Int} {p : Chart21} (h : CI l n bx (upd base S (wr X)) p) (hS : S < n) (y : Cell21) (hb : y.box = bx S) (hw : y.ways = wr (wr X + Y)) (hZ : wr (X + Y) = wr (X + Z)) : CI l n bx (upd base S (wr (X + Z))) ⟨p.list, setS p.cells (S : Int) y⟩ := by
  obtain ⟨x, hx, _⟩ := h.cells S hS
  refine ⟨h.list, by show ((setS p.cells (S : Int) _).getD []).length = n; rw [setS_len]; exact h.len, fun v hv => ?_⟩
  show ∃ x, ((setS p.cells (S : Int) _).getD [])[v]? = some x ∧ _
  rw [setS_look hx]
  by_cases e : v = S
  · subst e
    rw [if_pos rfl]
    exact ⟨y, rfl, hb, by rw [upd_self, hw, wr_add_l, hZ]⟩
  · rw [if_neg e]
    obtain ⟨z, h1, h2, h3⟩ := h.cells v hv
    exact ⟨z, h1, h2, by rw [h3, upd_ne _ e, upd_ne _ e]⟩

/-! ### The boxes of sets; one set whole -/
def shrQ (S i : Nat) : Int := Int.fdiv (S : Int) (2 ^ (min (i : Int).toNat 64))

def outQ (S i : Nat) : Bool := decide (andI (shrQ S i) 1 = 0)

/-! ### The best way (ParseSymbols) -/
structure Way where
  kind : Int
  sign : Int
  a : Nat
  b : Nat
  cost : Int
  ways : Int
  deriving DecidableEq

abbrev posLt (x y : Way) : Prop := x.kind < y.kind ∨ (x.kind = y.kind ∧ (x.sign < y.sign ∨ (x.sign = y.sign ∧ x.a < y.a)))

abbrev lexLt (x y : Way) : Prop := x.cost < y.cost ∨ (x.cost = y.cost ∧ posLt x y)

def stepI (o : Option Way) (t : Way) : Option Way := if t.ways = 0 then o else match o with
  | none => some t
  | some x => if lexLt t x then some t else some x

def chOf (t : Way) : Choice := ⟨t.kind, t.sign, (t.a : Int), (t.b : Int), t.cost⟩

structure PB (l : Sl Symbol) (n : Nat) (bx : Nat → Box) (base : Nat → Int) (bc : Nat → Choice) (S : Nat) (X : Int) (o : Option Way) (p : Parser) : Prop where
  pi : PI l n bx (upd base S (wr X)) p
  bst : ∀ v, v < n → v ≠ S → (p.best.getD [])[v]? = some (bc v)
  own : ∀ t, o = some t → (p.best.getD [])[S]? = some (chOf t)
  zero : o = none ↔ X = 0
  pos : 0 ≤ X

theorem PB.take {l : Sl Symbol} {n : Nat} {bx : Nat → Box} {base : Nat → Int} {bc : Nat → Choice} {S : Nat} {X : Int} {o : Option Way} {p : Parser} (h : PB l n bx base bc S X o p) (hS : S < n) {t : Way} (hp : 0 < t.ways) (hs : stepI o t = some t) : PB l n bx base bc S (X + t.ways) (stepI o t) ⟨p.list, p.boxes, setS p.best (S : Int) (chOf t), setS p.count (S : Int) (wr (wr X + t.ways))⟩ := by
  obtain ⟨y, hy⟩ : ∃ y, (p.best.getD [])[S]? = some y := ⟨_, List.getElem?_eq_getElem (by have := h.pi.best; omega)⟩
  have pos := h.pos
  refine ⟨h.pi.add hS _ (by rw [setS_len]; exact h.pi.best), fun v hv hn => ?_, fun u hu => ?_, ?_, by omega⟩
  · show ((setS p.best (S : Int) _).getD [])[v]? = _
    rw [setS_look hy, if_neg hn]
    exact h.bst v hv hn
  · show ((setS p.best (S : Int) _).getD [])[S]? = _
    rw [hs] at hu
    cases hu
    rw [setS_look hy, if_pos rfl]
  · rw [hs]
    exact ⟨fun e => (by cases e), fun e => by omega⟩

/-! ### One set whole, with its best way, on both sides -/
def lastIx (S : Nat) : Nat → Nat
  | 0 => 0
  | i + 1 => bif outQ S i then lastIx S i else i

def Lnk (N : Nat) (base : Nat → Int) (v : Nat) (x y : Choice) : Prop :=
  (v &&& (v - 1) = 0 ∧ y = ⟨0, (lastIx v N : Int), 0, 0, 0⟩) ∨ (v &&& (v - 1) ≠ 0 ∧ ∃ t : Way, x = chOf t ∧ y = chOf t ∧ t.kind ≠ 0 ∧ 0 < t.a ∧ t.a < v ∧ t.b < v ∧ base t.a ≠ 0 ∧ (t.b = 0 ∨ base t.b ≠ 0) ∧ t.a + t.b ≤ v)

theorem Lnk.mono {N v S : Nat} {base : Nat → Int} {x y : Choice} {u : Int} (h : Lnk N base v x y) (hv : v ≤ S) (hu : base S = 0) : Lnk N (upd base S u) v x y := by
  rcases h with h | ⟨h1, t, h2, h3, h4, h5, h6, h7, h8, h9, h10⟩
  · exact .inl h
  · refine .inr ⟨h1, t, h2, h3, h4, h5, h6, h7, ?_, ?_, h10⟩
    · rw [upd_ne _ (by omega)]
      exact h8
    · rw [upd_ne _ (by omega)]
      exact h9

/-! ### Texts of marks -/
theorem mark_dig : ∀ r : Fin 10, byteI (wr (48 + ((r.val : Nat) : Int))) = (48 + r.val).toUInt8 := by decide +kernel

theorem markLoop : ∀ (k : Nat) (out : ByteArray), k + out.size ≤ 1000000000 → loopT s0_laws_markText ((k : Int), out) = some (digT k out) := by
  intro k out
  induction k, out using digT.induct with
  | case1 out =>
    intro _
    rw [digT, dif_pos rfl]
    refine loopT_end ?_
    unfold s0_laws_markText
    rfl
  | case2 k out h ih =>
    intro hs
    rw [digT, dif_neg h]
    have sz : ((⟨#[(48 + k % 10).toUInt8]⟩ : ByteArray) ++ out).size = 1 + out.size := size_one _ _
    have c : decide ((0 : Int) < (k : Int)) = true := decide_eq_true (by omega)
    have m1 : Int.tmod (k : Int) 10 = ((k % 10 : Nat) : Int) := rfl
    have m2 : Int.tdiv (k : Int) 10 = ((k / 10 : Nat) : Int) := rfl
    have w : wr ((k / 10 : Nat) : Int) = ((k / 10 : Nat) : Int) := wr_id (by omega) (by omega)
    have b : byteI (wr (48 + ((k % 10 : Nat) : Int))) = (48 + k % 10).toUInt8 := mark_dig ⟨k % 10, by omega⟩
    have ct : catO (strL ((some ([(48 + k % 10).toUInt8] : List UInt8)).getD [])) out = some ((⟨#[(48 + k % 10).toUInt8]⟩ : ByteArray) ++ out) := by
      unfold catO
      rw [if_pos (by
        show (((⟨#[(48 + k % 10).toUInt8]⟩ : ByteArray).size + out.size : Nat) : Int) ≤ _
        have : (⟨#[(48 + k % 10).toUInt8]⟩ : ByteArray).size = 1 := rfl
        omega)]
      rfl
    rw [loopT_next (s' := (((k / 10 : Nat) : Int), (⟨#[(48 + k % 10).toUInt8]⟩ : ByteArray) ++ out))]
    · exact ih (by rw [sz]; omega)
    · unfold s0_laws_markText
      simp only [c, cond_true, m1, m2, w, b, ct, obind_sm]

theorem markText_ok {k : Nat} (h : k ≤ 100000000) : t_laws_markText (k : Int) = some (markT k) := by
  unfold t_laws_markText markT
  by_cases h0 : k = 0
  · subst h0
    rfl
  · have c : decide ((k : Int) ≤ 0) = false := decide_eq_false (by omega)
    have d : decide (k = 0) = false := decide_eq_false h0
    have sz := digT_size k ⟨#[]⟩
    have e : (⟨#[]⟩ : ByteArray).size = 0 := rfl
    have ct : catO (⟨#[109]⟩ : ByteArray) (digT k ⟨#[]⟩) = some ((⟨#[109]⟩ : ByteArray) ++ digT k ⟨#[]⟩) := by
      unfold catO
      rw [if_pos (by
        have : (⟨#[109]⟩ : ByteArray).size = 1 := rfl
        omega)]
    rw [c, d, cond_false, cond_false, markLoop k ⟨#[]⟩ (by omega), obind_sm, ct, obind_sm]

theorem mkBg_get : ∀ (n k i : Nat), i < n → (mkBg k n)[i]? = some ⟨markT (k + 3 * i), markT (k + 3 * i + 1), ((k + 3 * i + 2 : Nat) : Int)⟩
  | 0, _, _, h => by omega
  | n + 1, k, 0, _ => by simp [mkBg]
  | n + 1, k, i + 1, h => by
    have := mkBg_get n (k + 3) i (by omega)
    simp only [mkBg, List.getElem?_cons_succ, this]
    have e : k + 3 + 3 * i = k + 3 * (i + 1) := by omega
    rw [e]

theorem heldBg_ok {s : Sl Bigram} {n : Nat} (hs : s.getD [] = mkBg 1 n) (hn : n ≤ 2000000) : t_laws_heldBigramS s 1 = some (1 + 3 * (n : Int)) := by
  have lp := loopT_at (step := s0_laws_heldBigramS s) n (fun k => (((1 + 3 * k : Nat) : Int), (k : Int))) (.inl ((1 + 3 * n : Nat) : Int))
    (fun k hk => by
      have c : (k : Int) < (((mkBg 1 n).length : Nat) : Int) := by rw [mkBg_len]; omega
      have ws := wr_succ hk (by omega)
      have w1 : wr (((1 + 3 * k : Nat) : Int) + 1) = ((1 + 3 * k + 1 : Nat) : Int) := by rw [wr_id (by omega) (by omega)]; omega
      have w2 : wr (((1 + 3 * k + 1 : Nat) : Int) + 1) = ((1 + 3 * k + 2 : Nat) : Int) := by rw [wr_id (by omega) (by omega)]; omega
      have w3 : wr (((1 + 3 * k + 2 : Nat) : Int) + 1) = ((1 + 3 * (k + 1) : Nat) : Int) := by rw [wr_id (by omega) (by omega)]; omega
      unfold s0_laws_heldBigramS
      simp only [hs, c, decide_true, cond_true, getI_nat (mkBg_get n 1 k hk), obind_sm, Bool.not_true, cond_false, ws, w1, w2, w3, markText_ok (show 1 + 3 * k ≤ 100000000 by omega), markText_ok (show 1 + 3 * k + 1 ≤ 100000000 by omega)])
    (by
      have c : ¬ (n : Int) < (((mkBg 1 n).length : Nat) : Int) := by rw [mkBg_len]; omega
      unfold s0_laws_heldBigramS
      simp only [hs, c, decide_false, cond_false])
    0 (Nat.zero_le _)
  have lp' : loopT (s0_laws_heldBigramS s) (1, 0) = some (.inl ((1 + 3 * n : Nat) : Int)) := lp
  have e : ((1 + 3 * n : Nat) : Int) = 1 + 3 * (n : Int) := by omega
  unfold t_laws_heldBigramS
  rw [lp', obind_sm, e]

theorem markBg_ok (s : Sl Bigram) (d : Int) (hl : (s.getD []).length ≤ 1000) : ∃ v : Sl Bigram, t_laws_markBigramS s 1 = some (1 + 3 * (((s.getD []).length : Nat) : Int), v) ∧ t_laws_heldModel ⟨d, v⟩ 1 = some (1 + 3 * (((s.getD []).length : Nat) : Int)) := by
  refine ⟨s.map fun l => mkBg 1 l.length, ?_, ?_⟩
  · unfold t_laws_markBigramS
    have d2 : decide (1 + 3 * (((s.getD []).length : Nat) : Int) ≤ 100000000) = true := decide_eq_true (by omega)
    rw [d2]
    rfl
  · have g : (s.map fun l => mkBg 1 l.length).getD [] = mkBg 1 (s.getD []).length := by cases s <;> rfl
    have h := heldBg_ok g (by omega)
    have d : decide (1 + 3 * (((s.getD []).length : Nat) : Int) < 0) = false := decide_eq_false (by omega)
    unfold t_laws_heldModel
    simp only [h, obind_sm, d, cond_false]

/-! ### The sentence with the least cost, by itself -/
/-- Words that may stand at a place, each with its own cost. -/
abbrev CandL := List (ByteArray × Int)

/-- Words one behind the other, with their cost. -/
inductive SPth (pc : ByteArray → ByteArray → Int) : List CandL → ByteArray → List ByteArray → Int → Prop
  | nil {a : ByteArray} : SPth pc [] a [] 0
  | cons {C : CandL} {Cs : List CandL} {a w : ByteArray} {c r : Int} {ws : List ByteArray} (hw : (w, c) ∈ C) (h : SPth pc Cs w ws r) : SPth pc (C :: Cs) a (w :: ws) (pc a w + (c + r))

theorem SPth.len {pc : ByteArray → ByteArray → Int} {Cs : List CandL} {a : ByteArray} {ws : List ByteArray} {c : Int} (h : SPth pc Cs a ws c) : ws.length = Cs.length := by
  induction h with
  | nil => rfl
  | cons hw h ih => simp [ih]

/-! ### Texts of symbols and of models, plain -/
def symLineB (s : Symbol) : List UInt8 := bl s.label ++ [32] ++ bl (itS s.box.x1) ++ [32] ++ bl (itS s.box.y1) ++ [32] ++ bl (itS s.box.x2) ++ [32] ++ bl (itS s.box.y2) ++ [10]

def symTextB (l : List Symbol) : List UInt8 := l.flatMap symLineB

/-- What the program's SymbolsText gives. -/
def t_impl_SymbolsText (list_ : Sl Symbol) : Option ByteArray := bif decide ((list_.getD []).length ≤ 4294967296) then (bif okSys (list_.getD []) then some (strL (symTextB (list_.getD []))) else some ⟨#[]⟩) else none

def bigLineB (b : Bigram) : List UInt8 := (bif decide (b.first = (⟨#[]⟩ : ByteArray)) then [45] else bl b.first) ++ [32] ++ bl b.second ++ [32] ++ bl (itS b.cost) ++ [10]

def modHeadB (d : Int) : List UInt8 := [100, 101, 102, 97, 117, 108, 116, 32] ++ bl (itS d) ++ [10]

def modTextB (m : Model) : List UInt8 := modHeadB m.default ++ (m.bigrams.getD []).flatMap bigLineB

/-- The words of the pairs are not too long for the machine. -/
def fitBigs (m : Model) : Bool := decide ((m.bigrams.getD []).length ≤ 4294967296) && (m.bigrams.getD []).all fun b => decide (b.first.size ≤ 4294967296) && decide (b.second.size ≤ 4294967296)

/-- What the program's ModelText gives. -/
def t_impl_ModelText (m_ : Model) : Option ByteArray := bif fitBigs m_ then (bif modB m_ then some (strL (modTextB m_)) else some ⟨#[]⟩) else none

theorem fitBigs_small {m : Model} (h : fitBigs m = true) : smallBigs m := by
  unfold fitBigs at h
  simp only [Bool.and_eq_true, decide_eq_true_eq, List.all_eq_true] at h
  exact h

theorem small_fitBigs {m : Model} (h : smallBigs m) : fitBigs m = true := by
  unfold fitBigs
  simp only [Bool.and_eq_true, decide_eq_true_eq, List.all_eq_true]
  exact h

theorem itL {n : Int} (h0 : -9223372036854775808 ≤ n) (h1 : n ≤ 9223372036854775807) : ∃ D, itS n = strL D ∧ bl (itS n) = D ∧ D.length ≤ 20 ∧ t_spec_l01Dec n = some (strL D) := by
  obtain ⟨e1, e2⟩ := l01Dec_ok h0 h1
  refine ⟨bl (itS n), (strL_bl _).symm, rfl, ?_, by rw [strL_bl]; exact e1⟩
  have := strL_size (bl (itS n))
  rw [strL_bl] at this
  omega

theorem bl_length (s : ByteArray) : (bl s).length = s.size := by
  have := strL_size (bl s)
  rw [strL_bl] at this
  exact this.symm

theorem okSys_mem {l : List Symbol} (h : okSys l = true) : ∀ s ∈ l, okSym s = true := by
  intro s hs
  unfold okSys at h
  cases e : firstL fSy l 0 with
  | some r =>
    rw [e] at h
    simp only at h
    rw [fSy_some e] at h
    cases h
  | none =>
    cases c : okSym s with
    | true => rfl
    | false =>
      have key : ∀ (l : List Symbol) (k : Nat), s ∈ l → firstL fSy l k ≠ none := by
        intro l
        induction l with
        | nil => intro k h; cases h
        | cons a l ih =>
          intro k h
          unfold firstL
          cases c2 : okSym a with
          | true =>
            have hf : fSy k a = none := by unfold fSy; rw [c2]; rfl
            rw [hf]
            rcases List.mem_cons.1 h with rfl | h
            · rw [c] at c2; cases c2
            · exact ih (k + 1) h
          | false =>
            have hf : fSy k a = some false := by unfold fSy; rw [c2]; rfl
            rw [hf]
            simp
      exact absurd e (key l 0 hs)

theorem okSym_v {s : Symbol} (h : okSym s = true) : s.label.size = 1 ∧ (0 ≤ s.box.x1 ∧ s.box.x1 ≤ 4095) ∧ (0 ≤ s.box.y1 ∧ s.box.y1 ≤ 4095) ∧ (0 ≤ s.box.x2 ∧ s.box.x2 ≤ 4095) ∧ (0 ≤ s.box.y2 ∧ s.box.y2 ≤ 4095) := by
  unfold okSym isLabel validBox within at h
  simp only [Bool.and_eq_true, decide_eq_true_eq] at h
  omega

theorem symLine_len {s : Symbol} (h : okSym s = true) : (symLineB s).length ≤ 86 := by
  obtain ⟨h1, h2, h3, h4, h5⟩ := okSym_v h
  obtain ⟨D1, _, e1, l1, _⟩ := itL (n := s.box.x1) (by omega) (by omega)
  obtain ⟨D2, _, e2, l2, _⟩ := itL (n := s.box.y1) (by omega) (by omega)
  obtain ⟨D3, _, e3, l3, _⟩ := itL (n := s.box.x2) (by omega) (by omega)
  obtain ⟨D4, _, e4, l4, _⟩ := itL (n := s.box.y2) (by omega) (by omega)
  have := bl_length s.label
  unfold symLineB
  rw [e1, e2, e3, e4]
  simp only [List.length_append, List.length_cons, List.length_nil]
  omega

theorem flat_len {A : Type} {f : A → List UInt8} {c : Nat} : ∀ {l : List A}, (∀ a ∈ l, (f a).length ≤ c) → (l.flatMap f).length ≤ c * l.length
  | [], _ => by simp
  | a :: l, h => by
    have h1 := h a (List.mem_cons_self ..)
    have h2 := flat_len (l := l) (fun x hx => h x (List.mem_cons_of_mem _ hx))
    rw [List.flatMap_cons, List.length_append, List.length_cons, Nat.mul_succ]
    omega

theorem flat_take {A : Type} (f : A → List UInt8) {l : List A} {k : Nat} {a : A} (h : l[k]? = some a) : (l.take (k + 1)).flatMap f = (l.take k).flatMap f ++ f a := by
  rw [List.take_add_one, h, List.flatMap_append]
  simp

theorem nl10 : (⟨#[10]⟩ : ByteArray) = strL [10] := (rfl)

theorem valBig_v {b : Bigram} (h : validBigram b = true) : b.first.size ≤ 10 ∧ (1 ≤ b.second.size ∧ b.second.size ≤ 10) ∧ 0 ≤ b.cost ∧ b.cost ≤ 1000000 := by
  unfold validBigram isFirst within at h
  simp only [Bool.and_eq_true, Bool.or_eq_true, decide_eq_true_eq] at h
  obtain ⟨h1, h2, h3⟩ := h
  have w : ∀ {s : ByteArray}, isWord s = true → 1 ≤ s.size ∧ s.size ≤ 10 := by
    intro s hs
    unfold isWord at hs
    simp only [Bool.and_eq_true, decide_eq_true_eq] at hs
    exact hs.2
  refine ⟨?_, w h1, h3⟩
  rcases h2 with h2 | h2
  · rw [h2]
    decide
  · exact (w h2).2

theorem modB_v {m : Model} (h : modB m = true) : (∀ b ∈ m.bigrams.getD [], validBigram b = true) ∧ (0 ≤ m.default ∧ m.default ≤ 1000000) ∧ (m.bigrams.getD []).length ≤ 60 := by
  unfold modB within at h
  simp only [Bool.and_eq_true, decide_eq_true_eq] at h
  exact ⟨(adj_all h.1).1, h.2.1, h.2.2⟩

theorem bigLine_len {b : Bigram} (h : validBigram b = true) : (bigLineB b).length ≤ 43 := by
  obtain ⟨h1, h2, h3⟩ := valBig_v h
  obtain ⟨D, _, e1, l1, _⟩ := itL (n := b.cost) (by omega) (by omega)
  have := bl_length b.first
  have := bl_length b.second
  unfold bigLineB
  rw [e1]
  cases decide (b.first = (⟨#[]⟩ : ByteArray)) <;> simp only [cond_true, cond_false, List.length_append, List.length_cons, List.length_nil] <;> omega

section
open Go.RowKit
/-! ### A fresh slice of strings -/
theorem matR_strs (d : Nat) : ∀ (l : List ByteArray) (b : Nat), matR (mat d) (l.map fun s => [sv s]) b = (l.map fun s => [sv s], [])
  | [], _ => rfl
  | s :: l, b => by
    have h := matL_sc (d := d) (ps := [sv s]) rfl b
    rw [List.map_cons, matR, h, matR_strs d l]
    rfl
theorem cellAt_strs {l : List ByteArray} {i j : Nat} {c : AV} (h : cellAt (l.map fun s => [sv s]) i j = some c) : ∃ s, l[i]? = some s ∧ j = 0 ∧ c = sv s := by
  unfold cellAt at h
  rw [List.getElem?_map] at h
  cases e : l[i]? with
  | none => rw [e] at h; cases h
  | some s =>
    rw [e] at h
    match j, h with
    | 0, h => cases h; exact ⟨s, rfl, rfl, rfl⟩
    | j + 1, h => simp at h
theorem repN_strs {X : Nat → Prop} {w : World} {l : List ByteArray} {t : TypeId} :
    RepN X w.heap.size (w.alloc (.cells (l.map Value.string).toArray t)) (rS (some l)) (.slice (some ⟨w.heap.size, 0, none⟩) l.length l.length) := by
  have em : ∀ base, mat depth (rS (some l)) base = (.sl base l.length 0 l.length, [⟨1, l.map fun s => [sv s]⟩]) := fun base => by
    show ((AV.sl base (l.map fun s : ByteArray => [sv s]).length 0 (l.map fun s : ByteArray => [sv s]).length, (⟨1, (matR (mat 7) (l.map fun s => [sv s]) (base + 1)).1⟩ : AObj) :: (matR (mat 7) (l.map fun s => [sv s]) (base + 1)).2) : AV × Heap) = _
    rw [matR_strs, List.length_map]
  have hcell : ∀ (i : Nat) s, l[i]? = some s → (w.alloc (.cells (l.map Value.string).toArray t)).cell? ⟨w.heap.size, i, none⟩ = some (.string s) := fun i s h => by
    rw [World.cell?_alloc_at _ _ _ _ rfl]
    simp [h]
  refine ⟨fun o => if o = 0 then some ⟨w.heap.size, l.length, 1, l.length⟩ else none, fun o io e => ?_, fun base => ⟨fun o io e => ?_, fun H hH => ?_⟩⟩
  · dsimp only at e
    split at e
    · cases e; exact Nat.le_refl _
    · cases e
  · dsimp only at e
    split at e
    · rename_i h0
      subst h0
      rw [em]
      exact Nat.zero_lt_one
    · cases e
  · have hs : ∀ o io, sh base (fun o => if o = 0 then some (⟨w.heap.size, l.length, 1, l.length⟩ : OI) else none) o = some io → o = base ∧ io = ⟨w.heap.size, l.length, 1, l.length⟩ := fun o io e => by
      obtain ⟨h1, h2⟩ := sh_some e
      split at h2
      · cases h2
        exact ⟨by omega, rfl⟩
      · cases h2
    have hb : sh base (fun o => if o = 0 then some (⟨w.heap.size, l.length, 1, l.length⟩ : OI) else none) base = some ⟨w.heap.size, l.length, 1, l.length⟩ := by
      unfold sh
      rw [if_pos (Nat.le_refl _), Nat.sub_self]
      rfl
    have hH0 : H[base]? = some ⟨1, l.map fun s => [sv s]⟩ := by
      have := hH 0 ⟨1, l.map fun s => [sv s]⟩ (by rw [em]; rfl)
      rwa [Nat.add_zero] at this
    rw [em]
    refine ⟨⟨fun o io e => ?_, fun o o' io io' e e' _ => by rw [(hs o io e).1, (hs o' io' e').1]⟩, ?_⟩
    · obtain ⟨rfl, rfl⟩ := hs o io e
      refine ⟨_, hH0, rfl, by simp, Nat.le_refl _, fun row hr => ?_, fun x hx => ?_, fun i j c hc => ?_, by simp, fun h => absurd rfl h⟩
      · obtain ⟨s, _, rfl⟩ := List.mem_map.1 hr
        exact ⟨rfl, rfl⟩
      · have hx' : x < l.length := by simpa using hx
        obtain ⟨s, h⟩ : ∃ s, l[x]? = some s := ⟨_, List.getElem?_eq_getElem hx'⟩
        exact ⟨by rw [hcell x s h]; rfl, World.frozen?_alloc_at _ _ _ _ rfl⟩
      · obtain ⟨s, h, rfl, rfl⟩ := cellAt_strs hc
        exact ⟨.string s, by rw [Nat.mul_one, Nat.add_zero]; exact hcell i s h, .sc rfl⟩
    · exact .sl hb (Nat.le_refl _) fun _ => ⟨Nat.le_refl _, Nat.zero_add _, fun _ => by simp⟩
end

section
open Go.Shelf Go.RowKit
theorem callsB0 {P : Program} {g : Nat} {vs : Array Value} {w : World} {R : Ending → World → Prop} (hb : HasBody P g) (h : Calls P g vs w R) : CallF P g vs w R := by
  unfold CallF
  rw [callFunc_body hb]
  exact h
theorem belowD0 {B : Nat} {w w' : World} (h : Below B w w') : BelowD B w w' := ⟨h, fun c => c.elim⟩
theorem c2_inv {A A2 Z : Type} [Cod A] [Cod A2] {e : Z → AV} {t : A → A2 → Option Z} {ds : List AV} {r : AV} (h : C2 e t ds = some r) : ∃ a b z, ds = [enc a, enc b] ∧ t a b = some z ∧ r = e z := by
  match ds, h with
  | [x, y], h =>
    have h2 : obind (dec x) (fun a0 => obind (dec y) fun b0 => obind (t a0 b0) fun c => some (e c)) = some r := h
    obtain ⟨a, h3, h4⟩ := obind_some h2
    obtain ⟨b, h5, h6⟩ := obind_some h4
    obtain ⟨z, h7, h8⟩ := obind_some h6
    cases h8
    exact ⟨a, b, z, by rw [Cod.ed _ _ h3, Cod.ed _ _ h5], h7, rfl⟩
theorem arr_two {vs : Array Value} {x y : AV} (h : vs.size = [x, y].length) : ∃ u v, vs = #[u, v] := by
  match vs, h with
  | ⟨[u, v]⟩, _ => exact ⟨u, v, rfl⟩
theorem rep_sv0 {own : Nat → Prop} {w : World} {ρ : RM} {s : ByteArray} {v : Value} (h : Rep own w ρ (sv s) v) : v = .string s := by cases h; rfl
/-- The parts of a text. -/
def splitO (s sep : ByteArray) : Option (Sl ByteArray) := bif decide (s.size ≤ 4294967000) && decide (1 ≤ sep.size) then some (some (Lib.splitB sep 0 (Lib.countB s sep) s)) else none
theorem hasSplit : HasBody Tryd.prog 72 := ⟨Tryd.f72, _, Tryd.func72, rfl, rfl⟩
theorem glob_max {w : World} (hg : Glob Tryd.prog w) : ∃ m : Int, w.cell? ⟨laySplit_ren.g 1, 0, none⟩ = some (.int .i64 m) := by
  have h := hg ("internal/bytealg.MaxLen", .i64, []) (by simp [libTabs]) (laySplit_ren.g 1) (by kernel_rfl)
  rcases h with ⟨_, g, m, h1, h2⟩ | ⟨h1, _⟩
  · have e : g = laySplit_ren.g 1 := Option.some.inj (h1.symm.trans (show Tryd.prog.globalNamed "internal/bytealg.MaxLen" = some (laySplit_ren.g 1) by kernel_rfl))
    exact ⟨m, by rw [← e]; exact h2⟩
  · exact absurd rfl h1
theorem tt_strings_Split : PureOK Tryd.prog n_strings_Split (C2 (fun c : Sl ByteArray => rS c) splitO) := by
  intro ds r hf X w vs hg hn hvs
  obtain ⟨s, sep, z, rfl, ht, rfl⟩ := c2_inv hf
  obtain ⟨u, v, rfl⟩ := arr_two hn
  cases rep_sv0 (hvs 0 _ u rfl rfl)
  cases rep_sv0 (hvs 1 _ v rfl rfl)
  unfold splitO at ht
  cases c : decide (s.size ≤ 4294967000) && decide (1 ≤ sep.size) with
  | false => rw [c] at ht; cases ht
  | true =>
    rw [c] at ht
    cases ht
    rw [Bool.and_eq_true, decide_eq_true_eq, decide_eq_true_eq] at c
    obtain ⟨m, hm⟩ := glob_max hg
    refine callsB0 hasSplit ((Any.strings_Split laySplit (by kernel_rfl) s sep m w (by omega) hm c.2).mono fun e w' ⟨h1, h2⟩ => ?_)
    have hlen := Lib.splitB_all sep c.2 0 _ s rfl
    rw [← hlen] at h1
    subst h2
    exact ⟨_, h1, belowD0 ((Below.refl _ w).alloc (Nat.le_refl _) _), repN_strs⟩
end

end Go.Proofs.YtielmmmoldloeaaDoor
