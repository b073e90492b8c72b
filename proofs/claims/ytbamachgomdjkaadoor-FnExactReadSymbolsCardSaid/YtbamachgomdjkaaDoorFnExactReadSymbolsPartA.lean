/-
  Functions that the law FnExactReadSymbols reaches: their walks and contracts, part 1.
-/
import Derived.Test.YtbamachgomdjkaaDoorFnExactReadSymbolsGen
namespace Go.Proofs.YtbamachgomdjkaaDoor
open Go Go.Eng Go.Eng.Cod
set_option maxRecDepth 100000
set_option linter.unusedVariables false
set_option linter.unusedSimpArgs false

theorem nil_ok : EnvOK Tryd.prog (envL []) := E0

def within (a b c : Int) : Bool := decide (b ≤ a) && decide (a ≤ c)

theorem ok_impl_within : PureOK Tryd.prog n_impl_within (T3 within) := pureT3 nil_ok mixed hb_impl_within fun a b c => by
  simp [e_impl_within, within]

theorem ok_spec_l00In : PureOK Tryd.prog n_spec_l00In (T3 within) := pureT3 nil_ok mixed hb_spec_l00In fun a b c => by
  simp [e_spec_l00In, within]

def validBox (b : Box) : Bool := within b.x1 0 b.x2 && within b.y1 0 b.y2 && decide (b.x2 ≤ 4095) && decide (b.y2 ≤ 4095)

theorem ok_impl_ValidBox : PureOK Tryd.prog n_impl_ValidBox (T1 validBox) :=
  pureT1 (E1 ok_impl_within) mixed hb_impl_ValidBox fun b => by
  simp [e_impl_ValidBox, envL, aBox, aLoad, cut, validBox]

theorem ok_spec_l02Box : PureOK Tryd.prog n_spec_l02Box (T1 validBox) :=
  pureT1 (E1 ok_spec_l00In) mixed hb_spec_l02Box fun b => by
  simp [e_spec_l02Box, envL, aBox, aLoad, cut, validBox]

theorem ok_laws_eqBox : PureOK Tryd.prog n_laws_eqBox (T2 fun a b : Box => decide (a = b)) := pureT2 nil_ok mixed hb_laws_eqBox fun a b => by
  simp [e_laws_eqBox, aBox, aLoad, cut]
  obtain ⟨a1, a2, a3, a4⟩ := a
  obtain ⟨b1, b2, b3, b4⟩ := b
  simp

theorem ok_laws_eqSymbol : PureOK Tryd.prog n_laws_eqSymbol (T2 fun a b : Symbol => decide (a = b)) := pureT2 (E1 ok_laws_eqBox) mixed hb_laws_eqSymbol fun a b => by
  simp [e_laws_eqSymbol, envL, aBox, aLoad, cut]
  obtain ⟨a0, a1⟩ := a
  obtain ⟨b0, b1⟩ := b
  simp

def names : List ByteArray := [⟨#[110, 111, 110, 101]⟩, ⟨#[114, 105, 103, 104, 116]⟩, ⟨#[97, 98, 111, 118, 101]⟩, ⟨#[98, 101, 108, 111, 119]⟩, ⟨#[117, 112, 112, 101, 114]⟩, ⟨#[108, 111, 119, 101, 114]⟩, ⟨#[105, 110, 115, 105, 100, 101]⟩]
@[simp] theorem names_len : names.length = 7 := rfl

def find (s : ByteArray) : List ByteArray → Nat → Int
  | [], _ => -1
  | x :: r, i => bif decide (x = s) then (i : Int) else find s r (i + 1)
def relationNamed (s : ByteArray) : Int × Int := bif decide (find s names 0 < 0) then (0, 3) else (find s names 0, 0)
theorem find_pos (s : ByteArray) : ∀ (l : List ByteArray) (i : Nat), find s l i = -1 ∨ 0 ≤ find s l i
  | [], _ => .inl rfl
  | x :: r, i => by
    unfold find
    cases decide (x = s)
    · simpa using find_pos s r (i + 1)
    · right; simp

def isLow (b : UInt8) : Bool := decide ((97 : Int) ≤ (b.toNat : Int)) && decide ((b.toNat : Int) ≤ 122)

theorem ok_impl_isLetter : PureOK Tryd.prog n_impl_isLetter (T1 isLow) := pureT1 E0 mixed hb_impl_isLetter fun b => by
  simp [e_impl_isLetter, isLow]

theorem ok_spec_l01Small : PureOK Tryd.prog n_spec_l01Small (T1 isLow) := pureT1 E0 mixed hb_spec_l01Small fun b => by
  simp [e_spec_l01Small, isLow]

theorem ok_internal_bytealg_IndexByteString : PureOK Tryd.prog n_internal_bytealg_IndexByteString (T2 indexB) :=
  pure_indexByte (fn := Tryd.f87) Tryd.func87 (by kernel_rfl) (by kernel_rfl) (by kernel_rfl) (by kernel_rfl)

theorem ok_internal_stringslite_IndexByte : PureOK Tryd.prog n_internal_stringslite_IndexByte (T2 indexB) := pureT2 (E1 ok_internal_bytealg_IndexByteString) mixed hb_internal_stringslite_IndexByte fun s b => by
  simp [e_internal_stringslite_IndexByte, envL]

def byte0 (t : ByteArray) : UInt8 := (bl t).headD 0
theorem one_byte {t : ByteArray} (h : t.size = 1) : bl t = [byte0 t] := by
  have : (bl t).length = 1 := by rw [bl_len, h]
  match hb : bl t, this with
  | [b], _ => simp [byte0, hb]
theorem ok_internal_stringslite_Index : PureOK Tryd.prog n_internal_stringslite_Index (G2 (fun _ t : ByteArray => decide (t.size = 1)) fun s t => iv (indexB s (byte0 t))) :=
  pureG2 (E1 ok_internal_stringslite_IndexByte) mixed hb_internal_stringslite_Index fun s t h => by
  have h1 : t.size = 1 := of_decide_eq_true h
  have h2 : aLenK .str (sv t) = some (iv 1) := by rw [aLenK_str, h1]; rfl
  have h3 : aCmp .eql .plain (iv 1) (iv 0) = some (bv false) := rfl
  have h4 : aCmp .eql .plain (iv 1) (iv 1) = some (bv true) := rfl
  have h5 : aIndexStr (sv t) (iv 0) = some (bt (byte0 t)) := by
    rw [idx_str, h1, one_byte h1]
    rfl
  rw [e_internal_stringslite_Index]
  simp only [enc_str, h2, obind_sm, h3, guardB_false, cond_false, aCmp_eqS, obind2_sm, aPick_bv, condB_bv]
  by_cases e : t = s
  · subst e
    have e0 : indexB t (byte0 t) = 0 := by
      obtain ⟨⟨l⟩⟩ := t
      match l, h1 with
      | [b], _ => 
        show (match (List.range 1).find? (fun i => (⟨#[b]⟩ : ByteArray)[i]! == b) with | some i => (i : Int) | none => -1) = 0
        have : ((⟨#[b]⟩ : ByteArray)[0]! == b) = true := by
          have : (⟨#[b]⟩ : ByteArray)[0]! = b := rfl
          rw [this]
          simp
        simp [List.range_succ, this]
    simp only [decide_true, cond_true, obind_sm, release_iv, e0]
  · simp only [e, decide_false, cond_false, h4, obind_sm, cond_true, h5]
    simp [envL]

theorem ok_strings_Index : PureOK Tryd.prog n_strings_Index (G2 (fun _ t : ByteArray => decide (t.size = 1)) fun s t => iv (indexB s (byte0 t))) :=
  pureG2 (E1 ok_internal_stringslite_Index) mixed hb_strings_Index fun s t h => by
  simp [e_strings_Index, envL, of_decide_eq_true h]

theorem ok_strings_Contains : PureOK Tryd.prog n_strings_Contains (G2 (fun _ t : ByteArray => decide (t.size = 1)) fun s t => bv (decide (0 ≤ indexB s (byte0 t)))) :=
  pureG2 (E1 ok_strings_Index) mixed hb_strings_Contains fun s t h => by
  simp [e_strings_Contains, envL, of_decide_eq_true h]

def labelB (b : UInt8) : Bool := decide ((b.toNat : Int) = 43) || (decide ((b.toNat : Int) = 45) || (decide ((b.toNat : Int) = 42) || (decide ((b.toNat : Int) = 47) || (decide ((b.toNat : Int) = 61) || (decide ((b.toNat : Int) = 40) || (decide ((b.toNat : Int) = 41) || (decide ((b.toNat : Int) = 46) || (decide ((b.toNat : Int) = 44) ||
  (isLow b || (decide ((48 : Int) ≤ (b.toNat : Int)) && decide ((b.toNat : Int) ≤ 57)))))))))))
def labelSet : ByteArray := ⟨#[48, 49, 50, 51, 52, 53, 54, 55, 56, 57, 43, 45, 42, 47, 61, 40, 41, 46, 44]⟩
theorem label_all : ∀ n : Fin 256, (isLow (UInt8.ofNat n.val) || decide (0 ≤ indexB labelSet (UInt8.ofNat n.val))) = labelB (UInt8.ofNat n.val) := by decide +kernel
theorem label_eq (b : UInt8) : (isLow b || decide (0 ≤ indexB labelSet b)) = labelB b := by
  have := label_all ⟨b.toNat, b.toNat_lt⟩
  simpa using this
def isLabel (s : ByteArray) : Bool := decide (s.size = 1) && labelB (byte0 s)

theorem ok_spec_l11Label : PureOK Tryd.prog n_spec_l11Label (T1 labelB) := pureT1 (E1 ok_spec_l01Small) mixed hb_spec_l11Label fun b => by
  cases hw : isLow b <;> simp [e_spec_l11Label, envL, labelB, hw]
  all_goals cases decide ((48 : Int) ≤ (b.toNat : Int)) <;> simp
  all_goals
    congr 1
    generalize decide ((b.toNat : Int) = 43) = c43
    generalize decide ((b.toNat : Int) = 45) = c45
    generalize decide ((b.toNat : Int) = 42) = c42
    generalize decide ((b.toNat : Int) = 47) = c47
    generalize decide ((b.toNat : Int) = 61) = c61
    generalize decide ((b.toNat : Int) = 40) = c40
    generalize decide ((b.toNat : Int) = 41) = c41
    generalize decide ((b.toNat : Int) = 46) = c46
    generalize decide ((b.toNat : Int) = 44) = c44
    generalize decide ((b.toNat : Int) ≤ 57) = d
    revert c43 c45 c42 c47 c61 c40 c41 c46 c44 d
    decide +kernel

theorem ok_impl_IsLabel : PureOK Tryd.prog n_impl_IsLabel (T1 isLabel) := pureT1 (E2 ok_impl_isLetter ok_strings_Contains) mixed hb_impl_IsLabel fun s => by
  by_cases h1 : s.size = 1
  · have h5 : aIndexStr (sv s) (iv 0) = some (bt (byte0 s)) := by
      rw [idx_str, h1, one_byte h1]
      rfl
    have hl := label_eq (byte0 s)
    unfold labelSet at hl
    cases hw : isLow (byte0 s)
    · rw [hw] at hl
      simp at hl
      simp [e_impl_IsLabel, envL, h5, h1, hw, isLabel, hl]
    · rw [hw] at hl
      simp at hl
      simp [e_impl_IsLabel, envL, h5, h1, hw, isLabel, hl]
  · have h2 : ¬ ((s.size : Nat) : Int) = 1 := by omega
    simp [e_impl_IsLabel, h2, h1, isLabel]

theorem ok_spec_IsLabel : PureOK Tryd.prog n_spec_IsLabel (T1 isLabel) := pureT1 (E1 ok_spec_l11Label) mixed hb_spec_IsLabel fun s => by
  by_cases h1 : s.size = 1
  · have h5 : aIndexStr (sv s) (iv 0) = some (bt (byte0 s)) := by
      rw [idx_str, h1, one_byte h1]
      rfl
    simp [e_spec_IsLabel, envL, h5, h1, isLabel]
  · have h2 : ¬ ((s.size : Nat) : Int) = 1 := by omega
    simp [e_spec_IsLabel, h2, h1, isLabel]

def okSym (s : Symbol) : Bool := isLabel s.label && validBox s.box
def validSymbols (l : List Symbol) : Bool := decide (l.length ≤ 8) && l.all okSym
theorem ok_impl_ValidSymbols_1 : PureOK Tryd.prog n_impl_ValidSymbols_1 (T1 fun s : Symbol => !okSym s) := pureT1 (E2 ok_impl_IsLabel ok_impl_ValidBox) mixed hb_impl_ValidSymbols_1 fun s => by
  simp [e_impl_ValidSymbols_1, envL, aBox, aLoad, cut, okSym]

theorem tt_strconv_FormatInt : PureOK Tryd.prog n_strconv_FormatInt (C2 (fun c : ByteArray => enc c) fmtO) :=
  pure_formatInt hb_strconv_FormatInt (by kernel_rfl) fun n h0 h1 w ht => Go.Proofs.Any.strconv_FormatInt_10 layFmt n h0 h1 w ht

/-- The digits of a number, ahead of a text. -/
def digT (k : Nat) (out : ByteArray) : ByteArray := if _h : k = 0 then out else digT (k / 10) (⟨#[(48 + k % 10).toUInt8]⟩ ++ out)
termination_by k
decreasing_by omega
def markT (k : Nat) : ByteArray := bif decide (k = 0) then ⟨#[109, 48]⟩ else ⟨#[109]⟩ ++ digT k ⟨#[]⟩
theorem size_one (b : UInt8) (out : ByteArray) : ((⟨#[b]⟩ : ByteArray) ++ out).size = 1 + out.size := by
  rw [ByteArray.size_append]
  rfl
theorem add_str (a b : ByteArray) (h : a.size + b.size ≤ 4294967296) : aBin .add (sv a) (sv b) = some (sv (a ++ b)) := by
  have h0 : aBin .add (sv a) (sv b) = (match (if ((a.size + b.size : Nat) : Int) ≤ 9223372036854775807 then some (Value.string (a ++ b)) else none) with | some v => some (AV.sc v) | none => none) := rfl
  rw [h0, if_pos (by omega)]
  rfl
theorem digT_size : ∀ (k : Nat) (out : ByteArray), (digT k out).size ≤ k + out.size := by
  intro k out
  induction k, out using digT.induct with
  | case1 out => rw [digT]; simp
  | case2 k out h ih =>
    rw [digT, dif_neg h]
    rw [size_one] at ih
    omega

def isDig (b : UInt8) : Bool := decide ((48 : Int) ≤ (b.toNat : Int)) && decide ((b.toNat : Int) ≤ 57)
def signSet : ByteArray := ⟨#[43, 45, 42, 47, 94, 40, 41, 82]⟩
def isSign (b : UInt8) : Bool := (bl signSet).any (fun c => decide (c = b)) || isLow b
theorem sign_all : ∀ n : Fin 256, (!isLow (UInt8.ofNat n.val) && decide (indexB signSet (UInt8.ofNat n.val) < 0)) = !isSign (UInt8.ofNat n.val) := by decide +kernel
theorem sign_eq (b : UInt8) : (!isLow b && decide (indexB signSet b < 0)) = !isSign b := by
  have := sign_all ⟨b.toNat, b.toNat_lt⟩
  simpa using this
/-- Behind the digits. -/
def dEnd (l : List UInt8) : Nat → Nat → Nat
  | 0, e => e
  | f + 1, e => match l[e]? with
    | some b => bif isDig b then dEnd l f (e + 1) else e
    | none => e
theorem dEnd_le (l : List UInt8) : ∀ (f e : Nat), e ≤ l.length → e ≤ dEnd l f e ∧ dEnd l f e ≤ l.length
  | 0, e, h => ⟨Nat.le_refl _, h⟩
  | f + 1, e, h => by
    unfold dEnd
    by_cases he : e < l.length
    · rw [List.getElem?_eq_getElem he]
      simp only
      cases isDig l[e]
      · exact ⟨Nat.le_refl _, h⟩
      · have := dEnd_le l f (e + 1) (by omega)
        exact ⟨by simp only [cond_true]; omega, by simp only [cond_true]; omega⟩
    · rw [List.getElem?_eq_none (by omega)]
      exact ⟨Nat.le_refl _, h⟩
/-- The end of the token at `k`. -/
def tEnd (s : ByteArray) (k : Nat) : Nat := match (bl s)[k]? with
  | some b => bif isDig b then dEnd (bl s) s.size (k + 1) else k + 1
  | none => k + 1
def tOk (s : ByteArray) (k : Nat) : Bool := match (bl s)[k]? with
  | some b => isDig b || isSign b
  | none => true
def toks (s : ByteArray) : Nat → Nat → List ByteArray → Option (List ByteArray)
  | 0, _, acc => some acc
  | f + 1, k, acc => bif decide (k < s.size) then (bif tOk s k then toks s f (tEnd s k) (acc ++ [s.extract k (tEnd s k)]) else none) else some acc
theorem tEnd_le {s : ByteArray} {k : Nat} (h : k < s.size) : k < tEnd s k ∧ tEnd s k ≤ s.size := by
  have h' : k < (bl s).length := by rw [bl_len]; exact h
  unfold tEnd
  rw [List.getElem?_eq_getElem h']
  simp only
  cases isDig (bl s)[k]
  · simp only [cond_false]; omega
  · have := dEnd_le (bl s) s.size (k + 1) (by omega)
    rw [bl_len] at this
    simp only [cond_true]; omega
theorem slice_str (s : ByteArray) {k e : Nat} (h1 : k ≤ e) (h2 : e ≤ s.size) : aSliceStr (sv s) (some (iv (k : Int))) (some (iv (e : Int))) = some (sv (s.extract k e)) := by
  have i1 : idx (iv (e : Int)) (s.size + 1) = some e := idx_lt (by omega)
  have i2 : idx (iv (k : Int)) (e + 1) = some k := idx_lt (by omega)
  show (match bound (some (iv (e : Int))) s.size s.size with | some h => (match bound (some (iv (k : Int))) 0 h with | some l => some (AV.sc (.string (s.extract l h))) | none => none) | none => none) = _
  simp only [bound, i1, i2]
  rfl
/-- What has been gathered. -/
def Got (h : Heap) (x : AV) (l : List ByteArray) : Prop := ∃ o, x = .sl o l.length 0 l.length ∧ h[o]? = some ⟨1, l.map Row.cells⟩
def GotN (h : Heap) (x : AV) (l : List ByteArray) : Prop := (x = nilS ∧ l = []) ∨ (l ≠ [] ∧ Got h x l)
theorem src_one (h : Heap) (t : ByteArray) : aSrc false 1 (.sl h.length 1 0 1) (h ++ [⟨1, [[sv t]]⟩]) = some [[sv t]] := by
  simp [aSrc]
theorem got_app {h : Heap} {x : AV} {l : List ByteArray} (g : Got h x l) (hl : l.length ≤ 1000) (t : ByteArray) : ∃ x' h', aAppend false 1 16 x (.sl h.length 1 0 1) (h ++ [⟨1, [[sv t]]⟩]) = some (x', h') ∧ Got h' x' (l ++ [t]) := by
  obtain ⟨o, rfl, ho⟩ := g
  have holt := (List.getElem?_eq_some_iff.1 ho).1
  have ho' : (h ++ [⟨1, [[sv t]]⟩])[o]? = some ⟨1, l.map Row.cells⟩ := by rw [List.getElem?_append_left holt]; exact ho
  have hm : maxBytes = 140737488355328 := rfl
  refine ⟨.sl o (l.length + 1) 0 (l.length + 1), (h ++ [(⟨1, [[sv t]]⟩ : AObj)]).set o (⟨1, (l ++ [t]).map Row.cells⟩ : AObj), ?_, o, by simp, ?_⟩
  · unfold aAppend
    rw [src_one]
    simp only [ho', List.length_map, List.length_cons, List.length_nil, Nat.zero_add]
    rw [if_pos ⟨trivial, trivial, trivial, by omega, by omega, Nat.le_refl _⟩]
    congr 2
    · congr 1
      omega
    · congr 1
      have e1 : List.take l.length (l.map (Row.cells (A := ByteArray))) = l.map Row.cells := List.take_of_length_le (by simp)
      have e2 : List.drop (l.length + 1) (l.map (Row.cells (A := ByteArray))) = [] := List.drop_eq_nil_of_le (by simp)
      simp [e1, e2]
  · rw [List.getElem?_set_self (by simp; omega)]
theorem gotN_app {h : Heap} {x : AV} {l : List ByteArray} (g : GotN h x l) (hl : l.length ≤ 1000) (t : ByteArray) : ∃ x' h', aAppend false 1 16 x (.sl h.length 1 0 1) (h ++ [⟨1, [[sv t]]⟩]) = some (x', h') ∧ GotN h' x' (l ++ [t]) := by
  rcases g with ⟨rfl, rfl⟩ | ⟨hne, g⟩
  · refine ⟨.sl (h ++ [(⟨1, [[sv t]]⟩ : AObj)]).length 1 0 1, h ++ [⟨1, [[sv t]]⟩] ++ [⟨1, [[sv t]]⟩], ?_, .inr ⟨by simp, (h ++ [(⟨1, [[sv t]]⟩ : AObj)]).length, rfl, by simp⟩⟩
    have hm : maxBytes = 140737488355328 := rfl
    unfold aAppend
    rw [src_one]
    simp [nilS, hm]
  · obtain ⟨x', h', e, g'⟩ := got_app g hl t
    exact ⟨x', h', e, .inr ⟨by simp, g'⟩⟩
theorem one_tok (t : ByteArray) (h : Heap) : aBuildSlice [sv ⟨#[]⟩] 1 [(0, sv t)] h = some (.sl h.length 1 0 1, h ++ [⟨1, [[sv t]]⟩]) := rfl
theorem got_rel {h : Heap} {x : AV} {l : List ByteArray} (g : Got h x l) (c : AV) (hc : isSc c = true) : release h depth (.tup [x, c]) = some (.tup [nwl l, c]) := by
  obtain ⟨o, rfl, ho⟩ := g
  have R : Rels h 7 (.sl o l.length 0 l.length) (nwl l) o (o + 1) := by
    refine RelsR.sl (hi := o + 1) ho (by simp) (Nat.le_refl _) ?_
    have e1 : List.take l.length (l.map (Row.cells (A := ByteArray))) = l.map Row.cells := List.take_of_length_le (by simp)
    rw [e1]
    exact ⟨Nat.le_refl _, rel_rows h 6 l, by rw [ids_rows]; exact List.nodup_nil, by rw [ids_rows]; intro x hx; cases hx⟩
  exact (RelsL.tup (RelsL.cons R (RelsL.cons (Rels.sc (o + 1) hc) (RelsL.nil _)))).release
def nwo (l : List ByteArray) : AV := match l with
  | [] => nilS
  | _ => nwl l
theorem gotN_rel {h : Heap} {x : AV} {l : List ByteArray} (g : GotN h x l) (c : AV) (hc : isSc c = true) : release h depth (.tup [x, c]) = some (.tup [nwo l, c]) := by
  rcases g with ⟨rfl, rfl⟩ | ⟨hne, g⟩
  · exact (RelsL.tup (RelsL.cons (Rels.sc 0 rfl) (RelsL.cons (Rels.sc 0 hc) (RelsL.nil _)))).release
  · rw [got_rel g c hc]
    cases l with
    | nil => exact absurd rfl hne
    | cons a l => rfl

theorem ok_spec_l01Digit : PureOK Tryd.prog n_spec_l01Digit (T1 isDig) := pureT1 E0 mixed hb_spec_l01Digit fun b => by
  simp [e_spec_l01Digit, isDig]

/-- The row that a mark leaves: numbers that go up by one, or their texts. -/
def mrow : List Bool → Nat → List AV
  | [], _ => []
  | b :: ks, k => (bif b then sv (markT k) else iv (k : Nat)) :: mrow ks (k + 1)
def mrows (ks : List Bool) : Nat → Nat → List (List AV)
  | _, 0 => []
  | k, m + 1 => mrow ks k :: mrows ks (k + ks.length) m
theorem set_same {h : Heap} {o : Nat} {x : AObj} (ho : h[o]? = some x) : h.set o x = h := by
  obtain ⟨hlt, e⟩ := List.getElem?_eq_some_iff.1 ho
  rw [← e]
  exact List.set_getElem_self hlt
theorem mark_addr {h : Heap} {o n w i : Nat} {P S : List (List AV)} {r : List AV} (ho : h[o]? = some ⟨w, P ++ r :: S⟩) (hi : i = P.length) (hn : P.length + (S.length + 1) = n) : aIndexAddr w (.sl o n 0 n) (iv (i : Nat)) h = some (.ptr o n i 0) := by
  have i1 : idx (iv (i : Int)) n = some i := idx_lt (by omega)
  have hl : (P ++ r :: S).length = n := by simp; omega
  simp only [aIndexAddr, ho, hl, i1, and_self, if_true, Nat.zero_add]
theorem mark_store {h : Heap} {o n w i j : Nat} {P S : List (List AV)} {r : List AV} {v : AV} (ho : h[o]? = some ⟨w, P ++ r :: S⟩) (hi : i = P.length) (hn : P.length + (S.length + 1) = n) (hv : v.cells = [v]) (hf : v.flat = true) (hj : j < r.length) : aStore 1 (.ptr o n i j) v h = some (h.set o ⟨w, P ++ r.set j v :: S⟩) := by
  have hl : (P ++ r :: S).length = n := by simp; omega
  have hg : (P ++ r :: S)[i]? = some r := by simp [hi]
  simp only [aStore, ho, hl, if_true, hg]
  rw [if_pos ⟨by rw [hv]; rfl, by omega, by rw [hv]; simp [hf]⟩]
  congr 3
  rw [hi, hv]
  have hs : splice r j [v] = r.set j v := by
    unfold splice
    simp only [List.length_cons, List.length_nil, Nat.zero_add]
    exact (List.set_eq_take_append_cons_drop (l := r) (i := j) (a := v)).symm ▸ (by simp [hj])
  rw [hs]
  simp

theorem lp2_laws_markText (env : Nat → Contract) {y1 y2 y4 y5 y18 y19 : AV} : ∀ (k : Nat) (out : ByteArray) (h : Heap), k ≤ 8589934592 → k + out.size ≤ 4000000000 →
    ((obind (loopP hm0_laws_markText xm0_laws_markText (lb0_laws_markText env) [iv (k : Nat), y1, y2, sv out, y4, y5, .top, .top, .top, .top, .top, .top, .top, .top, .top, .top, .top, .top, y18, y19] h) fun r => lk0_laws_markText env r.1 r.2.1 r.2.2).map Prod.fst) = some (sv (⟨#[109]⟩ ++ digT k out)) := by
  intro k out
  induction k, out using digT.induct with
  | case1 out =>
    intro h h1 h2
    rw [loopP.eq_1, digT]
    have hs : (⟨#[109]⟩ : ByteArray).size = 1 := rfl
    have ha := add_str ⟨#[109]⟩ out (by omega)
    simp [e_lb0_laws_markText, restr, e_lk0x0_laws_markText, ha]
  | case2 k out hk ih =>
    intro h h1 h2
    have ih' := fun h => ih h (by omega) (by rw [size_one]; omega)
    have p : (0 : Int) < (k : Int) := by omega
    have a1 : (k : Int).tmod 10 = ((k % 10 : Nat) : Int) := by
      have := Int.ofNat_tmod k 10
      exact this.symm
    have a2 : wr (48 + ((k % 10 : Nat) : Int)) = ((48 + k % 10 : Nat) : Int) := by rw [wr_id (by omega) (by omega)]; omega
    have a3 : aConvInt .u8 (iv ((48 + k % 10 : Nat) : Int)) = some (bt (48 + k % 10).toUInt8) := by
      have h0 : aConvInt .u8 (iv ((48 + k % 10 : Nat) : Int)) = some (.sc (.int .u8 (IntKind.u8.wrap ((48 + k % 10 : Nat) : Int)))) := rfl
      rw [h0]
      unfold bt
      congr 3
    have a4 : (k : Int).tdiv 10 = ((k / 10 : Nat) : Int) := (Int.ofNat_tdiv k 10).symm
    have a5 : wr ((k / 10 : Nat) : Int) = ((k / 10 : Nat) : Int) := wr_id (by omega) (by omega)
    have a6 : ∀ b : UInt8, ∀ h : Heap, aBuildSlice [.sc (.int .u8 0)] 1 [(0, bt b)] h = some (.sl h.length 1 0 1, h ++ [⟨1, [[bt b]]⟩]) := fun b h => rfl
    have a7 : ∀ b : UInt8, ∀ h : Heap, aConvStr (.sl h.length 1 0 1) (h ++ [⟨1, [[bt b]]⟩]) = some (sv ⟨#[b]⟩) := by
      intro b h
      have h0 : aSrc false 1 (.sl h.length 1 0 1) (h ++ [⟨1, [[bt b]]⟩]) = some [[bt b]] := by
        simp [aSrc]
      unfold aConvStr
      rw [h0]
      have h1 : bytesOf [[bt b]] = some [b] := by
        show (match bytesOf [] with | some l => some (((b.toNat : Int)).toNat.toUInt8 :: l) | none => none) = _
        simp [bytesOf]
      show (match bytesOf [[bt b]] with | some l => some (AV.sc (Value.string ⟨l.toArray⟩)) | none => none) = _
      rw [h1]
      rfl
    have a8 := add_str ⟨#[(48 + k % 10).toUInt8]⟩ out (by have : (⟨#[(48 + k % 10).toUInt8]⟩ : ByteArray).size = 1 := rfl; omega)
    rw [loopP.eq_1, digT, dif_neg hk]
    simp only [e_lb0_laws_markText, aBin_gtr, obind_sm, condB_bv, p, decide_true, cond_true, aBin_rem _ 10 (by decide), a1, aBin_add, a2, a3, a6, obind2_sm, a7, a8, aBin_quo _ 10 (by decide), a4, a5, restr, cond_false]
    exact ih' _
theorem okB_laws_markText : PureOK Tryd.prog n_laws_markText (G1 (fun k : Int => decide (0 ≤ k) && decide (k ≤ 100000000)) fun k => sv (markT k.toNat)) :=
  pureG1 E0 mixed hb_laws_markText fun k h => by
  simp at h
  obtain ⟨m, rfl⟩ := Int.eq_ofNat_of_zero_le h.1
  refine plain_of rfl ?_
  by_cases hz : m = 0
  · subst hz
    simp [e_laws_markText, markT]
  · have hz' : ¬ ((m : Nat) : Int) ≤ 0 := by omega
    have hs : (⟨#[]⟩ : ByteArray).size = 0 := rfl
    have L := fun env {y1 y2 y4 y5 y18 y19} h => @lp2_laws_markText env y1 y2 y4 y5 y18 y19 m ⟨#[]⟩ h (by omega) (by omega)
    rw [e_laws_markText]
    simp only [enc_int, aBin_leq, obind_sm, condB_bv, hz', decide_false, cond_false, L, Int.toNat_natCast, markT, hz]

theorem lp_laws_markSymbolS (env : Nat → Contract) (he : env n_laws_markText = .pure (G1 (fun k : Int => decide (0 ≤ k) && decide (k ≤ 100000000)) fun k => sv (markT k.toNat))) {y2 y3 y4 y52 : AV} (o n : Nat) : ∀ (S P : List (List AV)) (k i : Nat) (h : Heap), i = P.length → P.length + S.length = n → n ≤ 4294967296 → (∀ r ∈ S, r.length = 5) → k + 5 * S.length ≤ 100000000 → h[o]? = some ⟨5, P ++ S⟩ →
    (obind (loopP hm0_laws_markSymbolS xm0_laws_markSymbolS (lb0_laws_markSymbolS env) ((.sl o n 0 n) :: (iv (k : Nat)) :: y2 :: y3 :: y4 :: (iv (i : Nat)) :: .top :: .top :: .top :: .top :: .top :: .top :: .top :: .top :: .top :: .top :: .top :: .top :: .top :: .top :: .top :: .top :: .top :: .top :: .top :: .top :: .top :: .top :: .top :: .top :: .top :: .top :: .top :: .top :: .top :: .top :: .top :: .top :: .top :: .top :: .top :: .top :: .top :: .top :: .top :: .top :: .top :: .top :: .top :: .top :: .top :: .top :: y52 :: []) h) fun r => lk0_laws_markSymbolS env r.1 r.2.1 r.2.2) = some (iv ((k + 5 * S.length : Nat) : Int), h.set o ⟨5, P ++ mrows [true, false, false, false, false] k S.length⟩) := by
  intro S
  induction S with
  | nil =>
    intro P k i h hi hl hn hr hk ho
    have : ¬ i < n := by simp at hl; omega
    have hs := set_same ho
    simp at hs
    rw [loopP.eq_1]
    simp [e_lb0_laws_markSymbolS, restr, e_lk0x0_laws_markSymbolS, this, mrows, hs]
  | cons r S ih =>
    intro P k i h hi hl hn hr hk ho
    have hl' : P.length + (S.length + 1) = n := by simpa using hl
    simp only [List.length_cons] at hk
    have hlt : i < n := by omega
    have hrl := hr r (by simp)
    obtain ⟨c0, c1, c2, c3, c4, rfl⟩ : ∃ c0 c1 c2 c3 c4, r = [c0, c1, c2, c3, c4] := by
      match r, hrl with
      | [c0, c1, c2, c3, c4], _ => exact ⟨c0, c1, c2, c3, c4, rfl⟩
    have olt := (List.getElem?_eq_some_iff.1 ho).1
    have a0 := mark_addr (w := 5) (r := [c0, c1, c2, c3, c4]) ho hi hl'
    have s0 := mark_store (j := 0) (v := sv (markT k)) ho hi hl' rfl rfl (by simp)
    simp only [List.set_cons_zero, List.set_cons_succ, List.set_set] at s0
    have g0 : (h.set o ⟨5, P ++ [(sv (markT k)), c1, c2, c3, c4] :: S⟩)[o]? = some ⟨5, P ++ [(sv (markT k)), c1, c2, c3, c4] :: S⟩ := by simp [olt]
    have w0 : wr ((k : Int) + 1) = ((k + 1 : Nat) : Int) := by rw [wr_id (by omega) (by omega)]; omega
    have t0 : (0 ≤ (k : Int)) = True := eq_true (by omega)
    have u0 : ((k : Int) ≤ 100000000) = True := eq_true (by omega)
    have q0 : ∀ h, aCall (env n_laws_markText) [iv (k : Int)] h = some (sv (markT k), h) := fun h => by
      rw [he]
      simp [-Int.natCast_add, t0, u0]
    have a1 := mark_addr (w := 5) (r := [(sv (markT k)), c1, c2, c3, c4]) g0 hi hl'
    have s1 := mark_store (j := 1) (v := iv ((k + 1 : Nat) : Int)) g0 hi hl' rfl rfl (by simp)
    simp only [List.set_cons_zero, List.set_cons_succ, List.set_set] at s1
    have g1 : (h.set o ⟨5, P ++ [(sv (markT k)), (iv ((k + 1 : Nat) : Int)), c2, c3, c4] :: S⟩)[o]? = some ⟨5, P ++ [(sv (markT k)), (iv ((k + 1 : Nat) : Int)), c2, c3, c4] :: S⟩ := by simp [olt]
    have w1 : wr (((k + 1 : Nat) : Int) + 1) = ((k + 2 : Nat) : Int) := by rw [wr_id (by omega) (by omega)]; omega
    have a2 := mark_addr (w := 5) (r := [(sv (markT k)), (iv ((k + 1 : Nat) : Int)), c2, c3, c4]) g1 hi hl'
    have s2 := mark_store (j := 2) (v := iv ((k + 2 : Nat) : Int)) g1 hi hl' rfl rfl (by simp)
    simp only [List.set_cons_zero, List.set_cons_succ, List.set_set] at s2
    have g2 : (h.set o ⟨5, P ++ [(sv (markT k)), (iv ((k + 1 : Nat) : Int)), (iv ((k + 2 : Nat) : Int)), c3, c4] :: S⟩)[o]? = some ⟨5, P ++ [(sv (markT k)), (iv ((k + 1 : Nat) : Int)), (iv ((k + 2 : Nat) : Int)), c3, c4] :: S⟩ := by simp [olt]
    have w2 : wr (((k + 2 : Nat) : Int) + 1) = ((k + 3 : Nat) : Int) := by rw [wr_id (by omega) (by omega)]; omega
    have a3 := mark_addr (w := 5) (r := [(sv (markT k)), (iv ((k + 1 : Nat) : Int)), (iv ((k + 2 : Nat) : Int)), c3, c4]) g2 hi hl'
    have s3 := mark_store (j := 3) (v := iv ((k + 3 : Nat) : Int)) g2 hi hl' rfl rfl (by simp)
    simp only [List.set_cons_zero, List.set_cons_succ, List.set_set] at s3
    have g3 : (h.set o ⟨5, P ++ [(sv (markT k)), (iv ((k + 1 : Nat) : Int)), (iv ((k + 2 : Nat) : Int)), (iv ((k + 3 : Nat) : Int)), c4] :: S⟩)[o]? = some ⟨5, P ++ [(sv (markT k)), (iv ((k + 1 : Nat) : Int)), (iv ((k + 2 : Nat) : Int)), (iv ((k + 3 : Nat) : Int)), c4] :: S⟩ := by simp [olt]
    have w3 : wr (((k + 3 : Nat) : Int) + 1) = ((k + 4 : Nat) : Int) := by rw [wr_id (by omega) (by omega)]; omega
    have a4 := mark_addr (w := 5) (r := [(sv (markT k)), (iv ((k + 1 : Nat) : Int)), (iv ((k + 2 : Nat) : Int)), (iv ((k + 3 : Nat) : Int)), c4]) g3 hi hl'
    have s4 := mark_store (j := 4) (v := iv ((k + 4 : Nat) : Int)) g3 hi hl' rfl rfl (by simp)
    simp only [List.set_cons_zero, List.set_cons_succ, List.set_set] at s4
    have g4 : (h.set o ⟨5, P ++ [(sv (markT k)), (iv ((k + 1 : Nat) : Int)), (iv ((k + 2 : Nat) : Int)), (iv ((k + 3 : Nat) : Int)), (iv ((k + 4 : Nat) : Int))] :: S⟩)[o]? = some ⟨5, P ++ [(sv (markT k)), (iv ((k + 1 : Nat) : Int)), (iv ((k + 2 : Nat) : Int)), (iv ((k + 3 : Nat) : Int)), (iv ((k + 4 : Nat) : Int))] :: S⟩ := by simp [olt]
    have w4 : wr (((k + 4 : Nat) : Int) + 1) = ((k + 5 : Nat) : Int) := by rw [wr_id (by omega) (by omega)]; omega
    have wi : wr ((i : Int) + 1) = ((i + 1 : Nat) : Int) := by rw [wr_id (by omega) (by omega)]; omega
    have r := ih (P ++ [[(sv (markT k)), (iv ((k + 1 : Nat) : Int)), (iv ((k + 2 : Nat) : Int)), (iv ((k + 3 : Nat) : Int)), (iv ((k + 4 : Nat) : Int))]]) (k + 5) (i + 1) (h.set o ⟨5, P ++ [(sv (markT k)), (iv ((k + 1 : Nat) : Int)), (iv ((k + 2 : Nat) : Int)), (iv ((k + 3 : Nat) : Int)), (iv ((k + 4 : Nat) : Int))] :: S⟩) (by simp [hi]) (by simp; omega) hn (fun r hr' => hr r (by simp [hr'])) (by omega) (by simp [olt])
    have hlz : ((i : Int) < (n : Nat)) := by omega
    rw [loopP.eq_1]
    simp only [e_lb0_laws_markSymbolS, aLenK_sl, obind_sm, aBin_lss, condB_bv, hlz, decide_true, cond_true, aFieldAddr_ptr, Nat.zero_add, a0, s0, w0, q0, obind2_sm, a1, s1, w1, a2, s2, w2, a3, s3, w3, a4, s4, w4, wi, aBin_add, restr, cond_false]
    rw [r]
    simp only [mrows, mrow, List.length_cons, List.set_set, List.append_assoc, List.singleton_append, cond_true, cond_false, Nat.add_assoc]
    congr 3
    · omega
theorem gen_laws_markSymbolS (env : Nat → Contract) (he : env n_laws_markText = .pure (G1 (fun k : Int => decide (0 ≤ k) && decide (k ≤ 100000000)) fun k => sv (markT k.toNat))) (R : List (List AV)) (o n : Nat) (hn : R.length = n) (hl : n ≤ 4294967296) (hr : ∀ r ∈ R, r.length = 5) (k : Nat) (hk : k + 5 * n ≤ 100000000) (h : Heap) (ho : h[o]? = some ⟨5, R⟩) :
    denFn Tryd.prog env n_laws_markSymbolS [.sl o n 0 n, iv (k : Nat)] h = some (iv ((k + 5 * n : Nat) : Int), h.set o ⟨5, mrows [true, false, false, false, false] k n⟩) := by
  have L := fun {y2 y3 y4 y52} => @lp_laws_markSymbolS env he y2 y3 y4 y52 o n R [] k 0 h rfl (by simpa using hn) hl hr (by rw [hn]; exact hk) (by simpa using ho)
  rw [hn] at L
  simp [-Int.natCast_add] at L
  simp [-Int.natCast_add, e_laws_markSymbolS, L]

noncomputable def ev_laws_markSymbolS : Nat → Contract := envL [(n_laws_markText, .pure (G1 (fun k : Int => decide (0 ≤ k) && decide (k ≤ 100000000)) fun k => sv (markT k.toNat)))]
theorem eo_laws_markSymbolS : EnvOK Tryd.prog ev_laws_markSymbolS := Econs okB_laws_markText E0

/-- Marks in a list of symbols. -/
def mkSy : Nat → Nat → List Symbol
  | _, 0 => []
  | k, n + 1 => ⟨markT k, ⟨((k + 1 : Nat) : Int), ((k + 2 : Nat) : Int), ((k + 3 : Nat) : Int), ((k + 4 : Nat) : Int)⟩⟩ :: mkSy (k + 5) n
theorem mkSy_len : ∀ (n k : Nat), (mkSy k n).length = n
  | 0, _ => rfl
  | n + 1, k => by simp [mkSy, mkSy_len n]
def t_laws_markSymbolS (s : Sl Symbol) (k : Int) : Option (Int × Sl Symbol) := bif decide (0 ≤ k) && decide (k + 5 * ((s.getD []).length : Nat) ≤ 100000000) then some (k + 5 * ((s.getD []).length : Nat), s.map fun l => mkSy k.toNat l.length) else none

theorem mrows_Sy : ∀ (n k : Nat), mrows [true, false, false, false, false] k n = (mkSy k n).map Row.cells
  | 0, _ => rfl
  | n + 1, k => by
    have ih := mrows_Sy n (k + 5)
    show [sv (markT k), iv ((k + 1 : Nat) : Int), iv ((k + 1 + 1 : Nat) : Int), iv ((k + 1 + 1 + 1 : Nat) : Int), iv ((k + 1 + 1 + 1 + 1 : Nat) : Int)] :: mrows [true, false, false, false, false] (k + 5) n = [sv (markT k), iv ((k + 1 : Nat) : Int), iv ((k + 2 : Nat) : Int), iv ((k + 3 : Nat) : Int), iv ((k + 4 : Nat) : Int)] :: (mkSy (k + 5) n).map Row.cells
    rw [ih]
theorem mk_laws_markSymbolS : MarkOK (denFn Tryd.prog ev_laws_markSymbolS n_laws_markSymbolS) t_laws_markSymbolS := by
  have he : ev_laws_markSymbolS n_laws_markText = .pure (G1 (fun k : Int => decide (0 ≤ k) && decide (k ≤ 100000000)) fun k => sv (markT k.toNat)) := by simp [ev_laws_markSymbolS, envL]
  intro s k r s' h
  unfold t_laws_markSymbolS at h
  cases c : decide (0 ≤ k) && decide (k + 5 * ((s.getD []).length : Nat) ≤ 100000000) with
  | false => rw [c] at h; cases h
  | true =>
    rw [c] at h
    simp only [cond_true, Option.some.injEq, Prod.mk.injEq] at h
    obtain ⟨rfl, rfl⟩ := h
    simp only [Bool.and_eq_true, decide_eq_true_eq] at c
    obtain ⟨m, rfl⟩ := Int.eq_ofNat_of_zero_le c.1
    cases s with
    | none =>
      refine .inl ⟨rfl, rfl, fun h => ?_⟩
      rw [e_laws_markSymbolS, loopP.eq_1]
      simp [e_lb0_laws_markSymbolS, e_lk0x0_laws_markSymbolS, restr]
    | some l =>
      refine .inr ⟨l, mkSy m l.length, rfl, rfl, mkSy_len _ _, fun o h ho => ?_⟩
      have g := gen_laws_markSymbolS ev_laws_markSymbolS he (l.map Row.cells) o l.length (by simp) (by simp only [Option.getD_some] at c; omega) (fun r hr => by
        obtain ⟨a, _, rfl⟩ := List.mem_map.1 hr
        rfl) m (by simp only [Option.getD_some] at c; omega) h ho
      rw [mrows_Sy] at g
      rw [g]
      simp only [Option.getD_some]
      congr 3

theorem cmp_eqY (a b : UInt8) : aCmp .eql .plain (bt a) (bt b) = some (bv (decide (a = b))) := by
  have h : aCmp .eql .plain (bt a) (bt b) = some (bv (((a.toNat : Int)) == ((b.toNat : Int)))) := rfl
  rw [h]
  congr 2
  by_cases c : a = b
  · subst c
    simp
  · rw [decide_eq_false c]
    have : ¬ ((a.toNat : Int) = (b.toNat : Int)) := fun e => c (UInt8.toNat_inj.1 (by omega))
    simpa using this
theorem cmp_neY (a b : UInt8) : aCmp .neq .plain (bt a) (bt b) = some (bv (!decide (a = b))) := by
  have h : aCmp .neq .plain (bt a) (bt b) = some (bv (!(((a.toNat : Int)) == ((b.toNat : Int))))) := rfl
  rw [h]
  congr 2
  by_cases c : a = b
  · subst c
    simp
  · rw [decide_eq_false c]
    have : ¬ ((a.toNat : Int) = (b.toNat : Int)) := fun e => c (UInt8.toNat_inj.1 (by omega))
    simpa using this

def s0_spec_l01Dec : ((Sl UInt8) × Int) → Option (Sum ((Sl UInt8) × Int) (Sl UInt8)) := fun (w6, w9) =>
  bif !decide (w9 = 0) then
    bif decide ((Int.tmod w9 10) < 0) then
      obind (appO (some ([byteI (wr (48 + (wr (0 - Int.tmod w9 10))))] : List UInt8)) (w6.getD [])) fun _ =>
      some (.inl ((appS (some ([byteI (wr (48 + (wr (0 - Int.tmod w9 10))))] : List UInt8)) (w6.getD [])), wr (Int.tdiv w9 10)))
    else
      obind (appO (some ([byteI (wr (48 + (Int.tmod w9 10)))] : List UInt8)) (w6.getD [])) fun _ =>
      some (.inl ((appS (some ([byteI (wr (48 + (Int.tmod w9 10)))] : List UInt8)) (w6.getD [])), wr (Int.tdiv w9 10)))
  else
    some (.inr w6)
def t_spec_l01Dec (n_ : Int) : Option ByteArray :=
  obind (loopT s0_spec_l01Dec ((some ([] : List UInt8)), n_)) fun q13 =>
  bif decide ((((q13.getD []).length : Nat) : Int) = 0) then
    some (⟨#[48]⟩ : ByteArray)
  else
    bif decide (n_ < 0) then
      obind (catO (⟨#[45]⟩ : ByteArray) (strL (q13.getD []))) fun s18 =>
      some s18
    else
      some (strL (q13.getD []))

theorem tl0_spec_l01Dec (env : Nat → Contract) {B : Base}  (n_ : Int) (x1 : AV)  {st : (Sl UInt8) × Int} {tm : TM} {h : Heap} (R : (fun (st : (Sl UInt8) × Int) tm h7 => match st with | (w6, w9) => ∃ z5, tm = [iv n_, und, sv (⟨#[]⟩ : ByteArray), z5, iv w9, AV.top, x1, iv n_, AV.top, AV.top, AV.top, AV.top, AV.top, AV.top, AV.top, AV.top, AV.top, AV.top, AV.top, AV.top, AV.top, AV.top, AV.top, AV.top, und, und, und, und, und, und, und, und, und, und] ∧ Hold B h7 [(z5, obS (w6 : Sl UInt8))]) st tm h) : Sim (loopP hm0_spec_l01Dec xm0_spec_l01Dec (lb0_spec_l01Dec env) tm h) (loopT s0_spec_l01Dec st) (fun (q : Sl UInt8) (r : Res) => match q with | q13 => ∃ (q14 : Int) (z12 : AV) (z15 : AV) (h10 : Heap), r = (.exit 0, [iv n_, und, sv (⟨#[]⟩ : ByteArray), z12, iv q14, z15, x1, iv n_, AV.top, AV.top, AV.top, AV.top, AV.top, AV.top, AV.top, AV.top, AV.top, AV.top, AV.top, AV.top, AV.top, AV.top, AV.top, AV.top, und, und, und, und, und, und, und, und, und, und], h10) ∧ Hold B h10 [(z12, obS (q13 : Sl UInt8))]) := by
  refine loop_sim (Rel := fun (st : (Sl UInt8) × Int) tm h7 => match st with | (w6, w9) => ∃ z5, tm = [iv n_, und, sv (⟨#[]⟩ : ByteArray), z5, iv w9, AV.top, x1, iv n_, AV.top, AV.top, AV.top, AV.top, AV.top, AV.top, AV.top, AV.top, AV.top, AV.top, AV.top, AV.top, AV.top, AV.top, AV.top, AV.top, und, und, und, und, und, und, und, und, und, und] ∧ Hold B h7 [(z5, obS (w6 : Sl UInt8))]) (fun st tm h7 R => ?_) R
  obtain ⟨w6, w9⟩ := st
  obtain ⟨z5, rfl, O8⟩ := R
  rw [e_lb0_spec_l01Dec]
  unfold s0_spec_l01Dec
  dsimp only
  refine sim_let (v := bv (!decide (w9 = 0))) (aCmp_ne _ _) ?_
  refine sim_cond (fun c19 => ?_) (fun c19 => ?_)
  · refine sim_let (v := iv (Int.tmod w9 10)) (aBin_rem _ _ (by decide)) ?_
    refine sim_let (v := bv (decide ((Int.tmod w9 10) < 0))) (aBin_lss _ _) ?_
    refine sim_cond (fun c20 => ?_) (fun c20 => ?_)
    · refine sim_let (v := iv (wr (0 - Int.tmod w9 10))) (aUn_neg _) ?_
      refine sim_let (v := iv (wr (48 + (wr (0 - Int.tmod w9 10))))) (aBin_add _ _) ?_
      refine sim_let (v := bt (byteI (wr (48 + (wr (0 - Int.tmod w9 10)))))) (conv_u8 _) ?_
      refine sim_build (A := UInt8) O8 ([byteI (wr (48 + (wr (0 - Int.tmod w9 10))))] : List UInt8) rfl (by first | rfl | simp [aFillRows, zrows]) rfl (fun x21 h22 O23 => ?_)
      replace O23 : Hold B h22 [(z5, obS (w6 : Sl UInt8)), (x21, obS ((some ([byteI (wr (48 + (wr (0 - Int.tmod w9 10))))] : List UInt8)) : Sl UInt8))] := O23
      refine sim_append (A := UInt8) (s := (some ([byteI (wr (48 + (wr (0 - Int.tmod w9 10))))] : List UInt8))) O23 1 (w6.getD []) rfl (O23.src (A := UInt8) (s := w6) 0 rfl) (by decide) (fun x26 h27 O28 => ?_)
      replace O28 : Hold B h27 [(z5, obS (w6 : Sl UInt8)), (x26, obS ((appS (some ([byteI (wr (48 + (wr (0 - Int.tmod w9 10))))] : List UInt8)) (w6.getD [])) : Sl UInt8))] := O28
      refine sim_let (v := iv (wr (Int.tdiv w9 10))) (aBin_quo _ _ (by decide)) ?_
      have O30 : Hold B h27 [(x26, obS ((appS (some ([byteI (wr (48 + (wr (0 - Int.tmod w9 10))))] : List UInt8)) (w6.getD [])) : Sl UInt8))] := O28.sel [1] (by decide) rfl
      exact sim_ret ⟨rfl, _, rfl, O30⟩
    · refine sim_let (v := iv (wr (48 + (Int.tmod w9 10)))) (aBin_add _ _) ?_
      refine sim_let (v := bt (byteI (wr (48 + (Int.tmod w9 10))))) (conv_u8 _) ?_
      refine sim_build (A := UInt8) O8 ([byteI (wr (48 + (Int.tmod w9 10)))] : List UInt8) rfl (by first | rfl | simp [aFillRows, zrows]) rfl (fun x31 h32 O33 => ?_)
      replace O33 : Hold B h32 [(z5, obS (w6 : Sl UInt8)), (x31, obS ((some ([byteI (wr (48 + (Int.tmod w9 10)))] : List UInt8)) : Sl UInt8))] := O33
      refine sim_append (A := UInt8) (s := (some ([byteI (wr (48 + (Int.tmod w9 10)))] : List UInt8))) O33 1 (w6.getD []) rfl (O33.src (A := UInt8) (s := w6) 0 rfl) (by decide) (fun x36 h37 O38 => ?_)
      replace O38 : Hold B h37 [(z5, obS (w6 : Sl UInt8)), (x36, obS ((appS (some ([byteI (wr (48 + (Int.tmod w9 10)))] : List UInt8)) (w6.getD [])) : Sl UInt8))] := O38
      refine sim_let (v := iv (wr (Int.tdiv w9 10))) (aBin_quo _ _ (by decide)) ?_
      have O40 : Hold B h37 [(x36, obS ((appS (some ([byteI (wr (48 + (Int.tmod w9 10)))] : List UInt8)) (w6.getD [])) : Sl UInt8))] := O38.sel [1] (by decide) rfl
      exact sim_ret ⟨rfl, _, rfl, O40⟩
  · exact sim_ret ⟨nofun, _, _, _, _, rfl, O8⟩
theorem ts_spec_l01Dec (env : Nat → Contract)  (n_ : Int) : Sim (denFn Tryd.prog env n_spec_l01Dec [iv n_] []) (t_spec_l01Dec n_) fun c p => release p.2 depth p.1 = some ((fun c : ByteArray => enc c) c) := by
  have O := Hold.nil []
  generalize hB : (⟨[], []⟩ : Base) = B at O
  clear hB
  rw [e_spec_l01Dec]
  unfold t_spec_l01Dec
  refine sim_build (A := UInt8) O ([] : List UInt8) rfl (by first | rfl | simp [aFillRows, zrows]) rfl (fun x1 h2 O3 => ?_)
  replace O3 : Hold B h2 [(x1, obS ((some ([] : List UInt8)) : Sl UInt8))] := O3
  refine sim_bind ((tl0_spec_l01Dec env n_ x1) ⟨_, rfl, O3⟩) (fun qq43 r hq => ?_)
  revert hq
  revert qq43
  intro q13 hq
  obtain ⟨q14, z12, z15, h10, rfl, O11⟩ := hq
  rw [e_lk0x0_spec_l01Dec]
  refine sim_let (v := iv (((q13.getD []).length : Nat) : Int)) (O11.tab (A := UInt8) (s := q13) 0 rfl).len ?_
  refine sim_let (v := bv (decide ((((q13.getD []).length : Nat) : Int) = 0))) (aCmp_eq _ _) ?_
  refine sim_cond (fun c16 => ?_) (fun c16 => ?_)
  · exact sim_ret (release_plain (by rfl) _)
  · refine sim_let (v := bv (decide (n_ < 0))) (aBin_lss _ _) ?_
    refine sim_cond (fun c17 => ?_) (fun c17 => ?_)
    · refine sim_let (v := sv (strL (q13.getD []))) (conv_str (s := q13) (O11.src (A := UInt8) (s := q13) 0 rfl)) ?_
      refine sim_cat (fun s18 => ?_)
      exact sim_ret (release_plain (by rfl) _)
    · refine sim_let (v := sv (strL (q13.getD []))) (conv_str (s := q13) (O11.src (A := UInt8) (s := q13) 0 rfl)) ?_
      exact sim_ret (release_plain (by rfl) _)
theorem tt_spec_l01Dec : PureOK Tryd.prog n_spec_l01Dec (C1 (fun c : ByteArray => enc c) t_spec_l01Dec) := pureC1 E0 mixed hb_spec_l01Dec fun n_ => ts_spec_l01Dec _  n_

def t_impl_Decimal (n_ : Int) : Option ByteArray :=
  obind (fmtO n_ 10) fun c1 =>
  some c1

theorem ts_impl_Decimal (env : Nat → Contract) (he_strconv_FormatInt : env n_strconv_FormatInt = .pure (C2 (fun c : ByteArray => enc c) fmtO)) (n_ : Int) : Sim (denFn Tryd.prog env n_impl_Decimal [iv n_] []) (t_impl_Decimal n_) fun c p => release p.2 depth p.1 = some ((fun c : ByteArray => enc c) c) := by
  have O := Hold.nil []
  generalize hB : (⟨[], []⟩ : Base) = B at O
  clear hB
  rw [e_impl_Decimal]
  unfold t_impl_Decimal
  refine sim_call2 he_strconv_FormatInt (snapD_int _ _) (snapD_int _ _) (fun c1 => ?_)
  refine sim_let2 (hand_plain (by rfl) _ _) ?_
  exact sim_ret (release_plain (by rfl) _)
theorem tt_impl_Decimal : PureOK Tryd.prog n_impl_Decimal (C1 (fun c : ByteArray => enc c) t_impl_Decimal) := pureC1 (Econs tt_strconv_FormatInt E0) mixed hb_impl_Decimal fun n_ => ts_impl_Decimal _ (by simp [envL]) n_

def s0_spec_l20Ok (list_ : Sl Symbol) : Int → Option (Sum Int (Sum Unit Bool)) := fun w3 =>
  bif decide (w3 < (((list_.getD []).length : Nat) : Int)) then
    obind (getI (list_.getD []) w3) fun a13 =>
    obind (some (isLabel a13.label)) fun c17 =>
    obind (bif !c17 then some false else (obind (getI (list_.getD []) w3) fun a19 => obind (some (validBox a19.box)) fun c23 => some (!c23))) fun c24 =>
    bif (bif !c17 then true else c24) then
      some (.inr (.inr false))
    else
      some (.inl (wr (w3 + 1)))
  else
    some (.inr (.inl ()))
def t_spec_l20Ok (list_ : Sl Symbol) : Option Bool :=
  obind (loopT (s0_spec_l20Ok list_) 0) fun qq30 => match qq30 with
  | (.inl _) =>
      some (decide ((((list_.getD []).length : Nat) : Int) ≤ 8))
  | (.inr q10) =>
      some q10

theorem tl0_spec_l20Ok (env : Nat → Contract) {B : Base} (he_spec_IsLabel : env n_spec_IsLabel = .pure (T1 isLabel)) (he_spec_l02Box : env n_spec_l02Box = .pure (T1 validBox)) (list_ : Sl Symbol)  {st : Int} {tm : TM} {h : Heap} (R : (fun (st : Int) tm h1 => match st with | w3 => tm = [Sl.enc list_, und, AV.top, iv w3, AV.top, AV.top, AV.top, AV.top, AV.top, AV.top, AV.top, AV.top, AV.top, AV.top, AV.top, AV.top, AV.top, AV.top, AV.top, AV.top, AV.top, AV.top, AV.top, AV.top, AV.top, AV.top, und, und, und] ∧ Hold B h1 []) st tm h) : Sim (loopP hm0_spec_l20Ok xm0_spec_l20Ok (lb0_spec_l20Ok env) tm h) (loopT (s0_spec_l20Ok list_) st) (fun (q : Sum Unit Bool) (r : Res) => match q with | .inl _ => ∃ (q7 : Int) (z6 : AV) (h4 : Heap), r = (.exit 0, [Sl.enc list_, und, z6, iv q7, AV.top, AV.top, AV.top, AV.top, AV.top, AV.top, AV.top, AV.top, AV.top, AV.top, AV.top, AV.top, AV.top, AV.top, AV.top, AV.top, AV.top, AV.top, AV.top, AV.top, AV.top, AV.top, und, und, und], h4) ∧ Hold B h4 [] | .inr q10 => ∃ (q11 : Int) (h8 : Heap), r = (.ret, [Sl.enc list_, und, bv q10, iv q11, AV.top, AV.top, AV.top, AV.top, AV.top, AV.top, AV.top, AV.top, AV.top, AV.top, AV.top, AV.top, AV.top, AV.top, AV.top, AV.top, AV.top, AV.top, AV.top, AV.top, AV.top, AV.top, und, und, und], h8) ∧ Hold B h8 []) := by
  refine loop_sim (Rel := fun (st : Int) tm h1 => match st with | w3 => tm = [Sl.enc list_, und, AV.top, iv w3, AV.top, AV.top, AV.top, AV.top, AV.top, AV.top, AV.top, AV.top, AV.top, AV.top, AV.top, AV.top, AV.top, AV.top, AV.top, AV.top, AV.top, AV.top, AV.top, AV.top, AV.top, AV.top, und, und, und] ∧ Hold B h1 []) (fun w3 tm h1 R => ?_) R
  obtain ⟨rfl, O2⟩ := R
  rw [e_lb0_spec_l20Ok]
  unfold s0_spec_l20Ok
  dsimp only
  refine sim_let (v := iv (((list_.getD []).length : Nat) : Int)) (Tab.enc h1 list_).len ?_
  refine sim_let (v := bv (decide (w3 < (((list_.getD []).length : Nat) : Int)))) (aBin_lss _ _) ?_
  refine sim_cond (fun c12 => ?_) (fun c12 => ?_)
  · refine sim_get (Tab.enc h1 list_) (fun m14 a13 hi15 hm16 => ?_)
    refine sim_let (v := elp (Sl.enc list_) m14 0) ((Tab.enc h1 list_).fld _ _ _) ?_
    refine sim_let (v := sv a13.label) ((Tab.enc h1 list_).ld hm16 false 1 0) ?_
    refine sim_callV1 (t := isLabel) he_spec_IsLabel (snapD_str _ _) (fun c17 => ?_)
    refine sim_let (v := bv (!c17)) (aUn_not _) ?_
    refine sim_guardF (e := bv) (fun hb18 => ?_) (fun c24 => ?_)
    · refine sim_get (Tab.enc h1 list_) (fun m20 a19 hi21 hm22 => ?_)
      refine sim_let (v := elp (Sl.enc list_) m20 1) ((Tab.enc h1 list_).fld _ _ _) ?_
      refine sim_let (v := AV.agg [iv a19.box.x1, iv a19.box.y1, iv a19.box.x2, iv a19.box.y2]) ((Tab.enc h1 list_).ld hm22 true 4 1) ?_
      refine sim_callV1 (t := validBox) he_spec_l02Box (snapD_nr _ a19.box rfl) (fun c23 => ?_)
      refine sim_let (v := bv (!c23)) (aUn_not _) ?_
      exact sim_ret rfl
    · refine sim_let (v := bv (bif !c17 then true else c24)) (pick_b' _ _ _) ?_
      refine sim_cond (fun c25 => ?_) (fun c25 => ?_)
      · exact sim_ret ⟨nofun, _, _, rfl, O2⟩
      · refine sim_let (v := iv (wr (w3 + 1))) (aBin_add _ _) ?_
        exact sim_ret ⟨rfl, rfl, O2⟩
  · exact sim_ret ⟨nofun, _, _, _, rfl, O2⟩
theorem ts_spec_l20Ok (env : Nat → Contract) (he_spec_IsLabel : env n_spec_IsLabel = .pure (T1 isLabel)) (he_spec_l02Box : env n_spec_l02Box = .pure (T1 validBox)) (list_ : Sl Symbol) : Sim (denFn Tryd.prog env n_spec_l20Ok [Sl.enc list_] []) (t_spec_l20Ok list_) fun c p => release p.2 depth p.1 = some ((fun c : Bool => enc c) c) := by
  have O := Hold.nil []
  generalize hB : (⟨[], []⟩ : Base) = B at O
  clear hB
  rw [e_spec_l20Ok]
  unfold t_spec_l20Ok
  refine sim_bind ((tl0_spec_l20Ok env he_spec_IsLabel he_spec_l02Box list_) ⟨rfl, O⟩) (fun qq30 r hq => ?_)
  rcases qq30 with _ | q10
  · obtain ⟨q7, z6, h4, rfl, O5⟩ := hq
    rw [e_lk0x0_spec_l20Ok]
    refine sim_let (v := iv (((list_.getD []).length : Nat) : Int)) (Tab.enc h4 list_).len ?_
    refine sim_let (v := bv (decide ((((list_.getD []).length : Nat) : Int) ≤ 8))) (aBin_leq _ _) ?_
    exact sim_ret (release_plain (by rfl) _)
  · obtain ⟨q11, h8, rfl, O9⟩ := hq
    rw [e_lk0r_spec_l20Ok]
    exact sim_ret (release_plain (by rfl) _)
theorem tt_spec_l20Ok : PureOK Tryd.prog n_spec_l20Ok (C1 (fun c : Bool => enc c) t_spec_l20Ok) := pureC1 (Econs ok_spec_IsLabel (Econs ok_spec_l02Box E0)) mixed hb_spec_l20Ok fun list_ => ts_spec_l20Ok _ (by simp [envL]) (by simp [envL]) list_

def s0_slices_IndexFunc_impl_Symbol_impl_Symbol (p_ : Symbol → Option Bool) (s_ : Sl Symbol) : Int → Option (Sum Int (Sum Unit Int)) := fun w3 =>
  bif decide (w3 < (((s_.getD []).length : Nat) : Int)) then
    obind (getI (s_.getD []) w3) fun a13 =>
    obind (p_ a13) fun c17 =>
    bif c17 then
      some (.inr (.inr w3))
    else
      some (.inl (wr (w3 + 1)))
  else
    some (.inr (.inl ()))
def t_slices_IndexFunc_impl_Symbol_impl_Symbol (p_ : Symbol → Option Bool) (s_ : Sl Symbol) : Option Int :=
  obind (loopT (s0_slices_IndexFunc_impl_Symbol_impl_Symbol p_ s_) 0) fun qq26 => match qq26 with
  | (.inl _) =>
      some (-1)
  | (.inr q10) =>
      some q10

theorem tl0_slices_IndexFunc_impl_Symbol_impl_Symbol (env : Nat → Contract) {B : Base} {K : Type} [Cod K] {g : Nat} {caps : K → List AV} {P : K → Symbol → Option Bool} (hp : ∀ k (a : Symbol) h, Sim (aCall (env g) (AV.agg (Row.cells a) :: caps k) h) (P k a) fun b r => r = (bv b, h))  (s_ : Sl Symbol) (f_ : K)  {st : Int} {tm : TM} {h : Heap} (R : (fun (st : Int) tm h1 => match st with | w3 => tm = [Sl.enc s_, AV.fn g (caps f_), und, und, AV.top, AV.top, Sl.enc s_, iv (((s_.getD []).length : Nat) : Int), iv w3, AV.top, AV.top, AV.top, AV.top, AV.top, AV.top, AV.top, AV.top, AV.top, AV.top] ∧ Hold B h1 []) st tm h) : Sim (loopP hm0_slices_IndexFunc_impl_Symbol_impl_Symbol xm0_slices_IndexFunc_impl_Symbol_impl_Symbol (lb0_slices_IndexFunc_impl_Symbol_impl_Symbol env) tm h) (loopT (s0_slices_IndexFunc_impl_Symbol_impl_Symbol (P f_) s_) st) (fun (q : Sum Unit Int) (r : Res) => match q with | .inl _ => ∃ (z6 : AV) (z7 : AV) (h4 : Heap), r = (.exit 0, [Sl.enc s_, AV.fn g (caps f_), und, und, z6, z7, Sl.enc s_, iv (((s_.getD []).length : Nat) : Int), AV.top, AV.top, AV.top, AV.top, AV.top, AV.top, AV.top, AV.top, AV.top, AV.top, AV.top], h4) ∧ Hold B h4 [] | .inr q10 => ∃ (q11 : Int) (h8 : Heap), r = (.ret, [Sl.enc s_, AV.fn g (caps f_), und, und, iv q10, iv q11, Sl.enc s_, iv (((s_.getD []).length : Nat) : Int), AV.top, AV.top, AV.top, AV.top, AV.top, AV.top, AV.top, AV.top, AV.top, AV.top, AV.top], h8) ∧ Hold B h8 []) := by
  refine loop_sim (Rel := fun (st : Int) tm h1 => match st with | w3 => tm = [Sl.enc s_, AV.fn g (caps f_), und, und, AV.top, AV.top, Sl.enc s_, iv (((s_.getD []).length : Nat) : Int), iv w3, AV.top, AV.top, AV.top, AV.top, AV.top, AV.top, AV.top, AV.top, AV.top, AV.top] ∧ Hold B h1 []) (fun w3 tm h1 R => ?_) R
  obtain ⟨rfl, O2⟩ := R
  rw [e_lb0_slices_IndexFunc_impl_Symbol_impl_Symbol]
  unfold s0_slices_IndexFunc_impl_Symbol_impl_Symbol
  dsimp only
  refine sim_let (v := bv (decide (w3 < (((s_.getD []).length : Nat) : Int)))) (aBin_lss _ _) ?_
  refine sim_cond (fun c12 => ?_) (fun c12 => ?_)
  · refine sim_get (Tab.enc h1 s_) (fun m14 a13 hi15 hm16 => ?_)
    refine sim_let (v := AV.agg [sv a13.label, iv a13.box.x1, iv a13.box.y1, iv a13.box.x2, iv a13.box.y2]) ((Tab.enc h1 s_).ld hm16 true 5 0) ?_
    refine sim_bind2 (hp f_ a13 _) (fun c17 v18 hh19 hq20 => ?_)
    cases hq20
    refine sim_cond (fun c21 => ?_) (fun c21 => ?_)
    · exact sim_ret ⟨nofun, _, _, rfl, O2⟩
    · refine sim_let (v := iv (wr (w3 + 1))) (aBin_add _ _) ?_
      exact sim_ret ⟨rfl, rfl, O2⟩
  · exact sim_ret ⟨nofun, _, _, _, rfl, O2⟩
theorem ts_slices_IndexFunc_impl_Symbol_impl_Symbol (env : Nat → Contract) {K : Type} [Cod K] {g : Nat} {caps : K → List AV} {P : K → Symbol → Option Bool} (hp : ∀ k (a : Symbol) h, Sim (aCall (env g) (AV.agg (Row.cells a) :: caps k) h) (P k a) fun b r => r = (bv b, h))  (s_ : Sl Symbol) (f_ : K) : Sim (denFn Tryd.prog env n_slices_IndexFunc_impl_Symbol_impl_Symbol [Sl.enc s_, AV.fn g (caps f_)] []) (t_slices_IndexFunc_impl_Symbol_impl_Symbol (P f_) s_) fun c p => release p.2 depth p.1 = some ((fun c : Int => enc c) c) := by
  have O := Hold.nil []
  generalize hB : (⟨[], []⟩ : Base) = B at O
  clear hB
  rw [e_slices_IndexFunc_impl_Symbol_impl_Symbol]
  unfold t_slices_IndexFunc_impl_Symbol_impl_Symbol
  refine sim_let (v := iv (((s_.getD []).length : Nat) : Int)) (Tab.enc [] s_).len ?_
  refine sim_bind ((tl0_slices_IndexFunc_impl_Symbol_impl_Symbol env hp s_ f_) ⟨rfl, O⟩) (fun qq26 r hq => ?_)
  rcases qq26 with _ | q10
  · obtain ⟨z6, z7, h4, rfl, O5⟩ := hq
    rw [e_lk0x0_slices_IndexFunc_impl_Symbol_impl_Symbol]
    exact sim_ret (release_plain (by rfl) _)
  · obtain ⟨q11, h8, rfl, O9⟩ := hq
    rw [e_lk0r_slices_IndexFunc_impl_Symbol_impl_Symbol]
    exact sim_ret (release_plain (by rfl) _)
theorem tt0_slices_IndexFunc_impl_Symbol_impl_Symbol {g : Nat} {t : Symbol → Option Bool} (hg : PureOK Tryd.prog g (C1 (fun c : Bool => enc c) t)) : PureOK Tryd.prog n_slices_IndexFunc_impl_Symbol_impl_Symbol (C2 (fun c : Int => enc c) (fun (q : Sl Symbol) (k : Clo0 g) => t_slices_IndexFunc_impl_Symbol_impl_Symbol ((fun _ : Clo0 g => t) k) q)) := pureC2 (Econs hg E0) mixed hb_slices_IndexFunc_impl_Symbol_impl_Symbol fun q k => ts_slices_IndexFunc_impl_Symbol_impl_Symbol _ (caps := fun _ => []) (P := (fun _ : Clo0 g => t)) (fun k a h => callP0 (by simp [envL]) (snapD_nr _ a rfl)) q k
theorem tt1_slices_IndexFunc_impl_Symbol_impl_Symbol {g : Nat} {X : Type} [Row X] {tp : Symbol → Pt X → Option Bool} (hg : PureOK Tryd.prog g (C2 (fun c : Bool => enc c) tp)) : PureOK Tryd.prog n_slices_IndexFunc_impl_Symbol_impl_Symbol (C2 (fun c : Int => enc c) (fun (q : Sl Symbol) (k : Clo g (Pt X)) => t_slices_IndexFunc_impl_Symbol_impl_Symbol ((fun (k : Clo g (Pt X)) a => tp a k.val) k) q)) := pureC2 (Econs hg E0) mixed hb_slices_IndexFunc_impl_Symbol_impl_Symbol fun q k => ts_slices_IndexFunc_impl_Symbol_impl_Symbol _ (caps := fun k : Clo g (Pt X) => [enc k.val]) (P := (fun (k : Clo g (Pt X)) a => tp a k.val)) (fun k a h => callP1 (by simp [envL]) (snapD_nr _ a rfl) (snapD_fptr _ _ _ _ rfl)) q k

def t_slices_ContainsFunc_impl_Symbol_impl_Symbol (p_ : Symbol → Option Bool) (s_ : Sl Symbol) : Option Bool :=
  obind (t_slices_IndexFunc_impl_Symbol_impl_Symbol p_ s_) fun c1 =>
  some (decide (0 ≤ c1))

theorem ts_slices_ContainsFunc_impl_Symbol_impl_Symbol (env : Nat → Contract) {K : Type} [Cod K] {g : Nat} {caps : K → List AV} {P : K → Symbol → Option Bool} (hs : ∀ k h, snapD h (AV.fn g (caps k)) = some k) (he_slices_IndexFunc_impl_Symbol_impl_Symbol : env n_slices_IndexFunc_impl_Symbol_impl_Symbol = .pure (C2 (fun c : Int => enc c) (fun (q : Sl Symbol) (k : K) => t_slices_IndexFunc_impl_Symbol_impl_Symbol (P k) q))) (s_ : Sl Symbol) (f_ : K) : Sim (denFn Tryd.prog env n_slices_ContainsFunc_impl_Symbol_impl_Symbol [Sl.enc s_, AV.fn g (caps f_)] []) (t_slices_ContainsFunc_impl_Symbol_impl_Symbol (P f_) s_) fun c p => release p.2 depth p.1 = some ((fun c : Bool => enc c) c) := by
  have O := Hold.nil []
  generalize hB : (⟨[], []⟩ : Base) = B at O
  clear hB
  rw [e_slices_ContainsFunc_impl_Symbol_impl_Symbol]
  unfold t_slices_ContainsFunc_impl_Symbol_impl_Symbol
  refine sim_call2 (t := fun (q : Sl Symbol) (k : K) => t_slices_IndexFunc_impl_Symbol_impl_Symbol (P k) q) he_slices_IndexFunc_impl_Symbol_impl_Symbol (snapD_enc _ _) (hs f_ _) (fun c1 => ?_)
  refine sim_let2 (hand_plain (by rfl) _ _) ?_
  refine sim_let (v := bv (decide (0 ≤ c1))) (aBin_geq _ _) ?_
  exact sim_ret (release_plain (by rfl) _)
theorem tt0_slices_ContainsFunc_impl_Symbol_impl_Symbol {g : Nat} {t : Symbol → Option Bool} (hg : PureOK Tryd.prog g (C1 (fun c : Bool => enc c) t)) : PureOK Tryd.prog n_slices_ContainsFunc_impl_Symbol_impl_Symbol (C2 (fun c : Bool => enc c) (fun (q : Sl Symbol) (k : Clo0 g) => t_slices_ContainsFunc_impl_Symbol_impl_Symbol ((fun _ : Clo0 g => t) k) q)) := pureC2 (Econs (tt0_slices_IndexFunc_impl_Symbol_impl_Symbol hg) E0) mixed hb_slices_ContainsFunc_impl_Symbol_impl_Symbol fun q k => ts_slices_ContainsFunc_impl_Symbol_impl_Symbol _ (caps := fun _ => []) (P := (fun _ : Clo0 g => t)) (fun k h => snapD_clo0 h g) (by simp [envL]) q k
theorem tt1_slices_ContainsFunc_impl_Symbol_impl_Symbol {g : Nat} {X : Type} [Row X] {tp : Symbol → Pt X → Option Bool} (hg : PureOK Tryd.prog g (C2 (fun c : Bool => enc c) tp)) : PureOK Tryd.prog n_slices_ContainsFunc_impl_Symbol_impl_Symbol (C2 (fun c : Bool => enc c) (fun (q : Sl Symbol) (k : Clo g (Pt X)) => t_slices_ContainsFunc_impl_Symbol_impl_Symbol ((fun (k : Clo g (Pt X)) a => tp a k.val) k) q)) := pureC2 (Econs (tt1_slices_IndexFunc_impl_Symbol_impl_Symbol hg) E0) mixed hb_slices_ContainsFunc_impl_Symbol_impl_Symbol fun q k => ts_slices_ContainsFunc_impl_Symbol_impl_Symbol _ (caps := fun k : Clo g (Pt X) => [enc k.val]) (P := (fun (k : Clo g (Pt X)) a => tp a k.val)) (fun k h => snapD_cloE h k) (by simp [envL]) q k

def t_impl_ValidSymbols (list_ : Sl Symbol) : Option Bool :=
  obind (bif decide ((((list_.getD []).length : Nat) : Int) ≤ 8) then (obind (t_slices_ContainsFunc_impl_Symbol_impl_Symbol (fun a => some ((fun s : Symbol => !okSym s) a)) list_) fun c2 => some (!c2)) else some false) fun c3 =>
  some (bif decide ((((list_.getD []).length : Nat) : Int) ≤ 8) then c3 else false)

theorem ts_impl_ValidSymbols (env : Nat → Contract) (he_slices_ContainsFunc_impl_Symbol_impl_Symbol : env n_slices_ContainsFunc_impl_Symbol_impl_Symbol = .pure (C2 (fun c : Bool => enc c) (fun (q : Sl Symbol) (k : Clo0 n_impl_ValidSymbols_1) => t_slices_ContainsFunc_impl_Symbol_impl_Symbol ((fun _ : Clo0 n_impl_ValidSymbols_1 => (fun a => some ((fun s : Symbol => !okSym s) a))) k) q))) (list_ : Sl Symbol) : Sim (denFn Tryd.prog env n_impl_ValidSymbols [Sl.enc list_] []) (t_impl_ValidSymbols list_) fun c p => release p.2 depth p.1 = some ((fun c : Bool => enc c) c) := by
  have O := Hold.nil []
  generalize hB : (⟨[], []⟩ : Base) = B at O
  clear hB
  rw [e_impl_ValidSymbols]
  unfold t_impl_ValidSymbols
  refine sim_let (v := iv (((list_.getD []).length : Nat) : Int)) (Tab.enc [] list_).len ?_
  refine sim_let (v := bv (decide ((((list_.getD []).length : Nat) : Int) ≤ 8))) (aBin_leq _ _) ?_
  refine sim_guardT (e := bv) (fun hb1 => ?_) (fun c3 => ?_)
  · refine sim_call2 (t := fun (q : Sl Symbol) (k : Clo0 n_impl_ValidSymbols_1) => t_slices_ContainsFunc_impl_Symbol_impl_Symbol ((fun _ : Clo0 n_impl_ValidSymbols_1 => (fun a => some ((fun s : Symbol => !okSym s) a))) k) q) he_slices_ContainsFunc_impl_Symbol_impl_Symbol (snapD_enc _ _) (snapD_clo0 _ _) (fun c2 => ?_)
    refine sim_let2 (hand_plain (by rfl) _ _) ?_
    refine sim_let (v := bv (!c2)) (aUn_not _) ?_
    exact sim_ret rfl
  · refine sim_let (v := bv (bif decide ((((list_.getD []).length : Nat) : Int) ≤ 8) then c3 else false)) (pick_b _ _ _) ?_
    exact sim_ret (release_plain (by rfl) _)
theorem tt_impl_ValidSymbols : PureOK Tryd.prog n_impl_ValidSymbols (C1 (fun c : Bool => enc c) t_impl_ValidSymbols) := pureC1 (Econs (tt0_slices_ContainsFunc_impl_Symbol_impl_Symbol (C1_T1 ok_impl_ValidSymbols_1)) E0) mixed hb_impl_ValidSymbols fun list_ => ts_impl_ValidSymbols _ (by simp [envL]) list_

def s0_laws_eqSymbolS (a_ : Sl Symbol) (b_ : Sl Symbol) : Int → Option (Sum Int (Sum Unit Bool)) := fun w4 =>
  bif decide (w4 < (((a_.getD []).length : Nat) : Int)) then
    obind (getI (a_.getD []) w4) fun a14 =>
    obind (getI (b_.getD []) w4) fun a18 =>
    obind (some ((fun a b : Symbol => decide (a = b)) a14 a18)) fun c22 =>
    bif !c22 then
      some (.inr (.inr false))
    else
      some (.inl (wr (w4 + 1)))
  else
    some (.inr (.inl ()))
def t_laws_eqSymbolS (a_ : Sl Symbol) (b_ : Sl Symbol) : Option Bool :=
  bif !decide ((((a_.getD []).length : Nat) : Int) = (((b_.getD []).length : Nat) : Int)) then
    some false
  else
    obind (loopT (s0_laws_eqSymbolS a_ b_) 0) fun qq28 => match qq28 with
    | (.inl _) =>
        some true
    | (.inr q11) =>
        some q11

theorem tl0_laws_eqSymbolS (env : Nat → Contract) {B : Base} (he_laws_eqSymbol : env n_laws_eqSymbol = .pure (T2 (fun a b : Symbol => decide (a = b)))) (a_ : Sl Symbol) (b_ : Sl Symbol)  {st : Int} {tm : TM} {h : Heap} (R : (fun (st : Int) tm h2 => match st with | w4 => tm = [Sl.enc a_, Sl.enc b_, und, und, AV.top, iv w4, Sl.enc a_, iv (((a_.getD []).length : Nat) : Int), Sl.enc b_, iv (((b_.getD []).length : Nat) : Int), bv (!decide ((((a_.getD []).length : Nat) : Int) = (((b_.getD []).length : Nat) : Int))), AV.top, AV.top, AV.top, AV.top, AV.top, AV.top, AV.top, AV.top, AV.top, AV.top, AV.top, AV.top, AV.top, AV.top, AV.top, AV.top] ∧ Hold B h2 []) st tm h) : Sim (loopP hm0_laws_eqSymbolS xm0_laws_eqSymbolS (lb0_laws_eqSymbolS env) tm h) (loopT (s0_laws_eqSymbolS a_ b_) st) (fun (q : Sum Unit Bool) (r : Res) => match q with | .inl _ => ∃ (q8 : Int) (z7 : AV) (h5 : Heap), r = (.exit 0, [Sl.enc a_, Sl.enc b_, und, und, z7, iv q8, Sl.enc a_, iv (((a_.getD []).length : Nat) : Int), Sl.enc b_, iv (((b_.getD []).length : Nat) : Int), bv (!decide ((((a_.getD []).length : Nat) : Int) = (((b_.getD []).length : Nat) : Int))), AV.top, AV.top, AV.top, AV.top, AV.top, AV.top, AV.top, AV.top, AV.top, AV.top, AV.top, AV.top, AV.top, AV.top, AV.top, AV.top], h5) ∧ Hold B h5 [] | .inr q11 => ∃ (q12 : Int) (h9 : Heap), r = (.ret, [Sl.enc a_, Sl.enc b_, und, und, bv q11, iv q12, Sl.enc a_, iv (((a_.getD []).length : Nat) : Int), Sl.enc b_, iv (((b_.getD []).length : Nat) : Int), bv (!decide ((((a_.getD []).length : Nat) : Int) = (((b_.getD []).length : Nat) : Int))), AV.top, AV.top, AV.top, AV.top, AV.top, AV.top, AV.top, AV.top, AV.top, AV.top, AV.top, AV.top, AV.top, AV.top, AV.top, AV.top], h9) ∧ Hold B h9 []) := by
  refine loop_sim (Rel := fun (st : Int) tm h2 => match st with | w4 => tm = [Sl.enc a_, Sl.enc b_, und, und, AV.top, iv w4, Sl.enc a_, iv (((a_.getD []).length : Nat) : Int), Sl.enc b_, iv (((b_.getD []).length : Nat) : Int), bv (!decide ((((a_.getD []).length : Nat) : Int) = (((b_.getD []).length : Nat) : Int))), AV.top, AV.top, AV.top, AV.top, AV.top, AV.top, AV.top, AV.top, AV.top, AV.top, AV.top, AV.top, AV.top, AV.top, AV.top, AV.top] ∧ Hold B h2 []) (fun w4 tm h2 R => ?_) R
  obtain ⟨rfl, O3⟩ := R
  rw [e_lb0_laws_eqSymbolS]
  unfold s0_laws_eqSymbolS
  dsimp only
  refine sim_let (v := iv (((a_.getD []).length : Nat) : Int)) (Tab.enc h2 a_).len ?_
  refine sim_let (v := bv (decide (w4 < (((a_.getD []).length : Nat) : Int)))) (aBin_lss _ _) ?_
  refine sim_cond (fun c13 => ?_) (fun c13 => ?_)
  · refine sim_get (Tab.enc h2 a_) (fun m15 a14 hi16 hm17 => ?_)
    refine sim_let (v := AV.agg [sv a14.label, iv a14.box.x1, iv a14.box.y1, iv a14.box.x2, iv a14.box.y2]) ((Tab.enc h2 a_).ld hm17 true 5 0) ?_
    refine sim_get (Tab.enc h2 b_) (fun m19 a18 hi20 hm21 => ?_)
    refine sim_let (v := AV.agg [sv a18.label, iv a18.box.x1, iv a18.box.y1, iv a18.box.x2, iv a18.box.y2]) ((Tab.enc h2 b_).ld hm21 true 5 0) ?_
    refine sim_callVQ2 (t := (fun a b : Symbol => decide (a = b))) he_laws_eqSymbol (snapD_nr _ a14 rfl) (snapD_nr _ a18 rfl) (fun c22 => ?_)
    refine sim_let (v := bv (!c22)) (aUn_not _) ?_
    refine sim_cond (fun c23 => ?_) (fun c23 => ?_)
    · exact sim_ret ⟨nofun, _, _, rfl, O3⟩
    · refine sim_let (v := iv (wr (w4 + 1))) (aBin_add _ _) ?_
      exact sim_ret ⟨rfl, rfl, O3⟩
  · exact sim_ret ⟨nofun, _, _, _, rfl, O3⟩
theorem ts_laws_eqSymbolS (env : Nat → Contract) (he_laws_eqSymbol : env n_laws_eqSymbol = .pure (T2 (fun a b : Symbol => decide (a = b)))) (a_ : Sl Symbol) (b_ : Sl Symbol) : Sim (denFn Tryd.prog env n_laws_eqSymbolS [Sl.enc a_, Sl.enc b_] []) (t_laws_eqSymbolS a_ b_) fun c p => release p.2 depth p.1 = some ((fun c : Bool => enc c) c) := by
  have O := Hold.nil []
  generalize hB : (⟨[], []⟩ : Base) = B at O
  clear hB
  rw [e_laws_eqSymbolS]
  unfold t_laws_eqSymbolS
  refine sim_let (v := iv (((a_.getD []).length : Nat) : Int)) (Tab.enc [] a_).len ?_
  refine sim_let (v := iv (((b_.getD []).length : Nat) : Int)) (Tab.enc [] b_).len ?_
  refine sim_let (v := bv (!decide ((((a_.getD []).length : Nat) : Int) = (((b_.getD []).length : Nat) : Int)))) (aCmp_ne _ _) ?_
  refine sim_cond (fun c1 => ?_) (fun c1 => ?_)
  · exact sim_ret (release_plain (by rfl) _)
  · refine sim_bind ((tl0_laws_eqSymbolS env he_laws_eqSymbol a_ b_) ⟨rfl, O⟩) (fun qq28 r hq => ?_)
    rcases qq28 with _ | q11
    · obtain ⟨q8, z7, h5, rfl, O6⟩ := hq
      rw [e_lk0x0_laws_eqSymbolS]
      exact sim_ret (release_plain (by rfl) _)
    · obtain ⟨q12, h9, rfl, O10⟩ := hq
      rw [e_lk0r_laws_eqSymbolS]
      exact sim_ret (release_plain (by rfl) _)
theorem tt_laws_eqSymbolS : PureOK Tryd.prog n_laws_eqSymbolS (C2 (fun c : Bool => enc c) t_laws_eqSymbolS) := pureC2 (Econs ok_laws_eqSymbol E0) mixed hb_laws_eqSymbolS fun a_ b_ => ts_laws_eqSymbolS _ (by simp [envL]) a_ b_

def s0_spec_l01Split (s_ : ByteArray) (by_ : UInt8) : ((Sl ByteArray) × Int × Int) → Option (Sum ((Sl ByteArray) × Int × Int) ((Sl ByteArray) × Int)) := fun (w6, w9, w10) =>
  bif decide (w10 < (s_.size : Int)) then
    obind (getB s_ w10) fun b29 =>
    bif decide (b29 = by_) then
      obind (subB s_ (some w9) (some w10)) fun s31 =>
      obind (appO w6 ([s31] : List ByteArray)) fun _ =>
      some (.inl ((appS w6 ([s31] : List ByteArray)), wr (w10 + 1), wr (w10 + 1)))
    else
      some (.inl (w6, w9, wr (w10 + 1)))
  else
    some (.inr (w6, w9))
def t_spec_l01Split (s_ : ByteArray) (by_ : UInt8) : Option (Sl ByteArray) :=
  obind (loopT (s0_spec_l01Split s_ by_) ((some ([] : List ByteArray)), 0, 0)) fun (q14, q15) =>
  obind (subB s_ (some q15) none) fun s17 =>
  obind (appO q14 ([s17] : List ByteArray)) fun _ =>
  some (appS q14 ([s17] : List ByteArray))

theorem tl0_spec_l01Split (env : Nat → Contract) {B : Base}  (s_ : ByteArray) (by_ : UInt8) (x1 : AV)  {st : (Sl ByteArray) × Int × Int} {tm : TM} {h : Heap} (R : (fun (st : (Sl ByteArray) × Int × Int) tm h7 => match st with | (w6, w9, w10) => ∃ z5, tm = [sv s_, bt by_, und, und, nilS, z5, iv w9, iv w10, x1, AV.top, AV.top, AV.top, AV.top, AV.top, AV.top, AV.top, AV.top, AV.top, AV.top, AV.top, AV.top, AV.top, AV.top, AV.top, AV.top, AV.top, AV.top, AV.top, AV.top, und, und, und, und, und, und] ∧ Hold B h7 [(z5, obS (w6 : Sl ByteArray))]) st tm h) : Sim (loopP hm0_spec_l01Split xm0_spec_l01Split (lb0_spec_l01Split env) tm h) (loopT (s0_spec_l01Split s_ by_) st) (fun (q : (Sl ByteArray) × Int) (r : Res) => match q with | (q14, q15) => ∃ (q16 : Int) (z13 : AV) (h11 : Heap), r = (.exit 0, [sv s_, bt by_, und, und, nilS, z13, iv q15, iv q16, x1, AV.top, AV.top, AV.top, AV.top, AV.top, AV.top, AV.top, AV.top, AV.top, AV.top, AV.top, AV.top, AV.top, AV.top, AV.top, AV.top, AV.top, AV.top, AV.top, AV.top, und, und, und, und, und, und], h11) ∧ Hold B h11 [(z13, obS (q14 : Sl ByteArray))]) := by
  refine loop_sim (Rel := fun (st : (Sl ByteArray) × Int × Int) tm h7 => match st with | (w6, w9, w10) => ∃ z5, tm = [sv s_, bt by_, und, und, nilS, z5, iv w9, iv w10, x1, AV.top, AV.top, AV.top, AV.top, AV.top, AV.top, AV.top, AV.top, AV.top, AV.top, AV.top, AV.top, AV.top, AV.top, AV.top, AV.top, AV.top, AV.top, AV.top, AV.top, und, und, und, und, und, und] ∧ Hold B h7 [(z5, obS (w6 : Sl ByteArray))]) (fun st tm h7 R => ?_) R
  obtain ⟨w6, w9, w10⟩ := st
  obtain ⟨z5, rfl, O8⟩ := R
  rw [e_lb0_spec_l01Split]
  unfold s0_spec_l01Split
  dsimp only
  refine sim_let (v := iv (s_.size : Int)) rfl ?_
  refine sim_let (v := bv (decide (w10 < (s_.size : Int)))) (aBin_lss _ _) ?_
  refine sim_cond (fun c28 => ?_) (fun c28 => ?_)
  · refine sim_getB (fun b29 => ?_)
    refine sim_let (v := bv (decide (b29 = by_))) (cmp_eqY _ _) ?_
    refine sim_cond (fun c30 => ?_) (fun c30 => ?_)
    · refine sim_subB11 (fun s31 => ?_)
      refine sim_build (A := ByteArray) O8 ([s31] : List ByteArray) rfl (by first | rfl | simp [aFillRows, zrows]) rfl (fun x32 h33 O34 => ?_)
      replace O34 : Hold B h33 [(z5, obS (w6 : Sl ByteArray)), (x32, obS ((some ([s31] : List ByteArray)) : Sl ByteArray))] := O34
      refine sim_append (A := ByteArray) (s := w6) O34 0 ([s31] : List ByteArray) rfl (O34.src (A := ByteArray) (s := (some ([s31] : List ByteArray))) 1 rfl) (by decide) (fun x37 h38 O39 => ?_)
      replace O39 : Hold B h38 [(x37, obS ((appS w6 ([s31] : List ByteArray)) : Sl ByteArray)), (x32, obS ((some ([s31] : List ByteArray)) : Sl ByteArray))] := O39
      have O41 : Hold B h38 [(x37, obS ((appS w6 ([s31] : List ByteArray)) : Sl ByteArray))] := O39.sel [0] (by decide) rfl
      refine sim_let (v := iv (wr (w10 + 1))) (aBin_add _ _) ?_
      refine sim_let (v := iv (wr (w10 + 1))) (aBin_add _ _) ?_
      exact sim_ret ⟨rfl, _, rfl, O41⟩
    · refine sim_let (v := iv (wr (w10 + 1))) (aBin_add _ _) ?_
      exact sim_ret ⟨rfl, _, rfl, O8⟩
  · exact sim_ret ⟨nofun, _, _, _, rfl, O8⟩
theorem ts_spec_l01Split (env : Nat → Contract)  (s_ : ByteArray) (by_ : UInt8) : Sim (denFn Tryd.prog env n_spec_l01Split [sv s_, bt by_] []) (t_spec_l01Split s_ by_) fun c p => release p.2 depth p.1 = some ((fun c : (Sl ByteArray) => rS c) c) := by
  have O := Hold.nil []
  generalize hB : (⟨[], []⟩ : Base) = B at O
  clear hB
  rw [e_spec_l01Split]
  unfold t_spec_l01Split
  refine sim_build (A := ByteArray) O ([] : List ByteArray) rfl (by first | rfl | simp [aFillRows, zrows]) rfl (fun x1 h2 O3 => ?_)
  replace O3 : Hold B h2 [(x1, obS ((some ([] : List ByteArray)) : Sl ByteArray))] := O3
  refine sim_bind ((tl0_spec_l01Split env s_ by_ x1) ⟨_, rfl, O3⟩) (fun qq46 r hq => ?_)
  obtain ⟨q14, q15⟩ := qq46
  obtain ⟨q16, z13, h11, rfl, O12⟩ := hq
  rw [e_lk0x0_spec_l01Split]
  refine sim_subB10 (fun s17 => ?_)
  refine sim_build (A := ByteArray) O12 ([s17] : List ByteArray) rfl (by first | rfl | simp [aFillRows, zrows]) rfl (fun x18 h19 O20 => ?_)
  replace O20 : Hold B h19 [(z13, obS (q14 : Sl ByteArray)), (x18, obS ((some ([s17] : List ByteArray)) : Sl ByteArray))] := O20
  refine sim_append (A := ByteArray) (s := q14) O20 0 ([s17] : List ByteArray) rfl (O20.src (A := ByteArray) (s := (some ([s17] : List ByteArray))) 1 rfl) (by decide) (fun x23 h24 O25 => ?_)
  replace O25 : Hold B h24 [(x23, obS ((appS q14 ([s17] : List ByteArray)) : Sl ByteArray)), (x18, obS ((some ([s17] : List ByteArray)) : Sl ByteArray))] := O25
  have O27 : Hold B h24 [(x23, obS ((appS q14 ([s17] : List ByteArray)) : Sl ByteArray))] := O25.sel [0] (by decide) rfl
  exact sim_ret (O27.rel (A := ByteArray) (s := (appS q14 ([s17] : List ByteArray))) 0 rfl)
theorem tt_spec_l01Split : PureOK Tryd.prog n_spec_l01Split (C2 (fun c : (Sl ByteArray) => rS c) t_spec_l01Split) := pureC2 E0 mixed hb_spec_l01Split fun s_ by_ => ts_spec_l01Split _  s_ by_

def s0_spec_l01Number (s5 : ByteArray) : (Int × Int) → Option (Sum (Int × Int) (Sum Int (Int × Bool))) := fun (w11, w12) =>
  bif decide (w12 < (s5.size : Int)) then
    obind (getB s5 w12) fun b31 =>
    obind (some (isDig b31)) fun c32 =>
    bif !c32 then
      some (.inr (.inr (0, false)))
    else
      obind (getB s5 w12) fun b35 =>
      some (.inl (wr ((wr (10 * w11)) + ((byteI ((b35.toNat : Int) - ((48 : UInt8).toNat : Int))).toNat : Int)), wr (w12 + 1)))
  else
    some (.inr (.inl w11))
def s1_spec_l01Number (s_ : ByteArray) : (Int × Int) → Option (Sum (Int × Int) (Sum Int (Int × Bool))) := fun (w45, w46) =>
  bif decide (w46 < (s_.size : Int)) then
    obind (getB s_ w46) fun b65 =>
    obind (some (isDig b65)) fun c66 =>
    bif !c66 then
      some (.inr (.inr (0, false)))
    else
      obind (getB s_ w46) fun b69 =>
      some (.inl (wr ((wr (10 * w45)) + ((byteI ((b69.toNat : Int) - ((48 : UInt8).toNat : Int))).toNat : Int)), wr (w46 + 1)))
  else
    some (.inr (.inl w45))
def t_spec_l01Number (s_ : ByteArray) : Option (Int × Bool) :=
  obind (bif !decide (s_ = (⟨#[]⟩ : ByteArray)) then (obind (getB s_ 0) fun b2 => some (decide ((b2.toNat : Int) = 45))) else some false) fun c3 =>
  bif (bif !decide (s_ = (⟨#[]⟩ : ByteArray)) then c3 else false) then
    obind (subB s_ (some 1) none) fun s5 =>
    obind (bif decide ((s5.size : Int) < 1) then some false else (some (decide (18 < (s5.size : Int))))) fun c7 =>
    bif (bif decide ((s5.size : Int) < 1) then true else c7) then
      some (0, false)
    else
      obind (loopT (s0_spec_l01Number s5) (0, 0)) fun qq39 => match qq39 with
      | (.inl q17) =>
          bif decide ((s5.size : Int) < (s_.size : Int)) then
            obind (t_spec_l01Dec (wr (0 - q17))) fun c20 =>
            bif !decide (c20 = s_) then
              some (0, false)
            else
              some (wr (0 - q17), true)
          else
            obind (t_spec_l01Dec q17) fun c22 =>
            bif !decide (c22 = s_) then
              some (0, false)
            else
              some (q17, true)
      | (.inr (q26, q27)) =>
          some (q26, q27)
  else
    obind (bif decide ((s_.size : Int) < 1) then some false else (some (decide (18 < (s_.size : Int))))) fun c41 =>
    bif (bif decide ((s_.size : Int) < 1) then true else c41) then
      some (0, false)
    else
      obind (loopT (s1_spec_l01Number s_) (0, 0)) fun qq73 => match qq73 with
      | (.inl q51) =>
          bif decide ((s_.size : Int) < (s_.size : Int)) then
            obind (t_spec_l01Dec (wr (0 - q51))) fun c54 =>
            bif !decide (c54 = s_) then
              some (0, false)
            else
              some (wr (0 - q51), true)
          else
            obind (t_spec_l01Dec q51) fun c56 =>
            bif !decide (c56 = s_) then
              some (0, false)
            else
              some (q51, true)
      | (.inr (q60, q61)) =>
          some (q60, q61)

theorem tl0_spec_l01Number (env : Nat → Contract) {B : Base} (he_spec_l01Dec : env n_spec_l01Dec = .pure (C1 (fun c : ByteArray => enc c) t_spec_l01Dec)) (he_spec_l01Digit : env n_spec_l01Digit = .pure (T1 isDig)) (s_ : ByteArray) (c3 : Bool) (s5 : ByteArray) (c7 : Bool)  {st : Int × Int} {tm : TM} {h : Heap} (R : (fun (st : Int × Int) tm h9 => match st with | (w11, w12) => tm = [sv s_, und, AV.top, AV.top, sv s5, iv w11, iv w12, sv s_, sv s_, bv (!decide (s_ = (⟨#[]⟩ : ByteArray))), bv (!decide (s_ = (⟨#[]⟩ : ByteArray))), AV.top, AV.top, cond (!decide (s_ = (⟨#[]⟩ : ByteArray))) (bv c3) und, bv (bif !decide (s_ = (⟨#[]⟩ : ByteArray)) then c3 else false), sv s_, sv s5, sv s5, iv (s5.size : Int), bv (decide ((s5.size : Int) < 1)), bv (decide ((s5.size : Int) < 1)), AV.top, AV.top, cond (decide ((s5.size : Int) < 1)) und (bv c7), bv (bif decide ((s5.size : Int) < 1) then true else c7), AV.top, AV.top, AV.top, AV.top, AV.top, AV.top, AV.top, AV.top, AV.top, AV.top, AV.top, AV.top, AV.top, AV.top, AV.top, AV.top, AV.top, AV.top, AV.top, und, und, und, und, und, und, und, und, und, und, und, und] ∧ Hold B h9 []) st tm h) : Sim (loopP hm0_spec_l01Number xm0_spec_l01Number (lb0_spec_l01Number env) tm h) (loopT (s0_spec_l01Number s5) st) (fun (q : Sum Int (Int × Bool)) (r : Res) => match q with | .inl q17 => ∃ (q18 : Int) (z15 : AV) (z16 : AV) (h13 : Heap), r = (.exit 0, [sv s_, und, z15, z16, sv s5, iv q17, iv q18, sv s_, sv s_, bv (!decide (s_ = (⟨#[]⟩ : ByteArray))), bv (!decide (s_ = (⟨#[]⟩ : ByteArray))), AV.top, AV.top, cond (!decide (s_ = (⟨#[]⟩ : ByteArray))) (bv c3) und, bv (bif !decide (s_ = (⟨#[]⟩ : ByteArray)) then c3 else false), sv s_, sv s5, sv s5, iv (s5.size : Int), bv (decide ((s5.size : Int) < 1)), bv (decide ((s5.size : Int) < 1)), AV.top, AV.top, cond (decide ((s5.size : Int) < 1)) und (bv c7), bv (bif decide ((s5.size : Int) < 1) then true else c7), AV.top, AV.top, AV.top, AV.top, AV.top, AV.top, AV.top, AV.top, AV.top, AV.top, AV.top, AV.top, AV.top, AV.top, AV.top, AV.top, AV.top, AV.top, AV.top, und, und, und, und, und, und, und, und, und, und, und, und], h13) ∧ Hold B h13 [] | .inr (q26, q27) => ∃ (q28 : Int) (q29 : Int) (h24 : Heap), r = (.ret, [sv s_, und, iv q26, bv q27, sv s5, iv q28, iv q29, sv s_, sv s_, bv (!decide (s_ = (⟨#[]⟩ : ByteArray))), bv (!decide (s_ = (⟨#[]⟩ : ByteArray))), AV.top, AV.top, cond (!decide (s_ = (⟨#[]⟩ : ByteArray))) (bv c3) und, bv (bif !decide (s_ = (⟨#[]⟩ : ByteArray)) then c3 else false), sv s_, sv s5, sv s5, iv (s5.size : Int), bv (decide ((s5.size : Int) < 1)), bv (decide ((s5.size : Int) < 1)), AV.top, AV.top, cond (decide ((s5.size : Int) < 1)) und (bv c7), bv (bif decide ((s5.size : Int) < 1) then true else c7), AV.top, AV.top, AV.top, AV.top, AV.top, AV.top, AV.top, AV.top, AV.top, AV.top, AV.top, AV.top, AV.top, AV.top, AV.top, AV.top, AV.top, AV.top, AV.top, und, und, und, und, und, und, und, und, und, und, und, und], h24) ∧ Hold B h24 []) := by
  refine loop_sim (Rel := fun (st : Int × Int) tm h9 => match st with | (w11, w12) => tm = [sv s_, und, AV.top, AV.top, sv s5, iv w11, iv w12, sv s_, sv s_, bv (!decide (s_ = (⟨#[]⟩ : ByteArray))), bv (!decide (s_ = (⟨#[]⟩ : ByteArray))), AV.top, AV.top, cond (!decide (s_ = (⟨#[]⟩ : ByteArray))) (bv c3) und, bv (bif !decide (s_ = (⟨#[]⟩ : ByteArray)) then c3 else false), sv s_, sv s5, sv s5, iv (s5.size : Int), bv (decide ((s5.size : Int) < 1)), bv (decide ((s5.size : Int) < 1)), AV.top, AV.top, cond (decide ((s5.size : Int) < 1)) und (bv c7), bv (bif decide ((s5.size : Int) < 1) then true else c7), AV.top, AV.top, AV.top, AV.top, AV.top, AV.top, AV.top, AV.top, AV.top, AV.top, AV.top, AV.top, AV.top, AV.top, AV.top, AV.top, AV.top, AV.top, AV.top, und, und, und, und, und, und, und, und, und, und, und, und] ∧ Hold B h9 []) (fun st tm h9 R => ?_) R
  obtain ⟨w11, w12⟩ := st
  obtain ⟨rfl, O10⟩ := R
  rw [e_lb0_spec_l01Number]
  unfold s0_spec_l01Number
  dsimp only
  refine sim_let (v := iv (s5.size : Int)) rfl ?_
  refine sim_let (v := bv (decide (w12 < (s5.size : Int)))) (aBin_lss _ _) ?_
  refine sim_cond (fun c30 => ?_) (fun c30 => ?_)
  · refine sim_getB (fun b31 => ?_)
    refine sim_callV1 (t := isDig) he_spec_l01Digit (snapD_byte _ b31) (fun c32 => ?_)
    refine sim_let (v := bv (!c32)) (aUn_not _) ?_
    refine sim_cond (fun c33 => ?_) (fun c33 => ?_)
    · exact sim_ret ⟨nofun, _, _, _, rfl, O10⟩
    · refine sim_let (v := iv (wr (10 * w11))) (aBin_mul _ _) ?_
      refine sim_getB (fun b35 => ?_)
      refine sim_let (v := bt (byteI ((b35.toNat : Int) - ((48 : UInt8).toNat : Int)))) (byte_sub b35 (48 : UInt8)) ?_
      refine sim_let (v := iv ((byteI ((b35.toNat : Int) - ((48 : UInt8).toNat : Int))).toNat : Int)) (conv_byte _) ?_
      refine sim_let (v := iv (wr ((wr (10 * w11)) + ((byteI ((b35.toNat : Int) - ((48 : UInt8).toNat : Int))).toNat : Int)))) (aBin_add _ _) ?_
      refine sim_let (v := iv (wr (w12 + 1))) (aBin_add _ _) ?_
      exact sim_ret ⟨rfl, rfl, O10⟩
  · exact sim_ret ⟨nofun, _, _, _, _, rfl, O10⟩
theorem tl1_spec_l01Number (env : Nat → Contract) {B : Base} (he_spec_l01Dec : env n_spec_l01Dec = .pure (C1 (fun c : ByteArray => enc c) t_spec_l01Dec)) (he_spec_l01Digit : env n_spec_l01Digit = .pure (T1 isDig)) (s_ : ByteArray) (c3 : Bool) (c41 : Bool)  {st : Int × Int} {tm : TM} {h : Heap} (R : (fun (st : Int × Int) tm h43 => match st with | (w45, w46) => tm = [sv s_, und, AV.top, AV.top, sv s_, iv w45, iv w46, sv s_, sv s_, bv (!decide (s_ = (⟨#[]⟩ : ByteArray))), bv (!decide (s_ = (⟨#[]⟩ : ByteArray))), AV.top, AV.top, cond (!decide (s_ = (⟨#[]⟩ : ByteArray))) (bv c3) und, bv (bif !decide (s_ = (⟨#[]⟩ : ByteArray)) then c3 else false), und, und, sv s_, iv (s_.size : Int), bv (decide ((s_.size : Int) < 1)), bv (decide ((s_.size : Int) < 1)), AV.top, AV.top, cond (decide ((s_.size : Int) < 1)) und (bv c41), bv (bif decide ((s_.size : Int) < 1) then true else c41), AV.top, AV.top, AV.top, AV.top, AV.top, AV.top, AV.top, AV.top, AV.top, AV.top, AV.top, AV.top, AV.top, AV.top, AV.top, AV.top, AV.top, AV.top, AV.top, und, und, und, und, und, und, und, und, und, und, und, und] ∧ Hold B h43 []) st tm h) : Sim (loopP hm1_spec_l01Number xm1_spec_l01Number (lb1_spec_l01Number env) tm h) (loopT (s1_spec_l01Number s_) st) (fun (q : Sum Int (Int × Bool)) (r : Res) => match q with | .inl q51 => ∃ (q52 : Int) (z49 : AV) (z50 : AV) (h47 : Heap), r = (.exit 0, [sv s_, und, z49, z50, sv s_, iv q51, iv q52, sv s_, sv s_, bv (!decide (s_ = (⟨#[]⟩ : ByteArray))), bv (!decide (s_ = (⟨#[]⟩ : ByteArray))), AV.top, AV.top, cond (!decide (s_ = (⟨#[]⟩ : ByteArray))) (bv c3) und, bv (bif !decide (s_ = (⟨#[]⟩ : ByteArray)) then c3 else false), und, und, sv s_, iv (s_.size : Int), bv (decide ((s_.size : Int) < 1)), bv (decide ((s_.size : Int) < 1)), AV.top, AV.top, cond (decide ((s_.size : Int) < 1)) und (bv c41), bv (bif decide ((s_.size : Int) < 1) then true else c41), AV.top, AV.top, AV.top, AV.top, AV.top, AV.top, AV.top, AV.top, AV.top, AV.top, AV.top, AV.top, AV.top, AV.top, AV.top, AV.top, AV.top, AV.top, AV.top, und, und, und, und, und, und, und, und, und, und, und, und], h47) ∧ Hold B h47 [] | .inr (q60, q61) => ∃ (q62 : Int) (q63 : Int) (h58 : Heap), r = (.ret, [sv s_, und, iv q60, bv q61, sv s_, iv q62, iv q63, sv s_, sv s_, bv (!decide (s_ = (⟨#[]⟩ : ByteArray))), bv (!decide (s_ = (⟨#[]⟩ : ByteArray))), AV.top, AV.top, cond (!decide (s_ = (⟨#[]⟩ : ByteArray))) (bv c3) und, bv (bif !decide (s_ = (⟨#[]⟩ : ByteArray)) then c3 else false), und, und, sv s_, iv (s_.size : Int), bv (decide ((s_.size : Int) < 1)), bv (decide ((s_.size : Int) < 1)), AV.top, AV.top, cond (decide ((s_.size : Int) < 1)) und (bv c41), bv (bif decide ((s_.size : Int) < 1) then true else c41), AV.top, AV.top, AV.top, AV.top, AV.top, AV.top, AV.top, AV.top, AV.top, AV.top, AV.top, AV.top, AV.top, AV.top, AV.top, AV.top, AV.top, AV.top, AV.top, und, und, und, und, und, und, und, und, und, und, und, und], h58) ∧ Hold B h58 []) := by
  refine loop_sim (Rel := fun (st : Int × Int) tm h43 => match st with | (w45, w46) => tm = [sv s_, und, AV.top, AV.top, sv s_, iv w45, iv w46, sv s_, sv s_, bv (!decide (s_ = (⟨#[]⟩ : ByteArray))), bv (!decide (s_ = (⟨#[]⟩ : ByteArray))), AV.top, AV.top, cond (!decide (s_ = (⟨#[]⟩ : ByteArray))) (bv c3) und, bv (bif !decide (s_ = (⟨#[]⟩ : ByteArray)) then c3 else false), und, und, sv s_, iv (s_.size : Int), bv (decide ((s_.size : Int) < 1)), bv (decide ((s_.size : Int) < 1)), AV.top, AV.top, cond (decide ((s_.size : Int) < 1)) und (bv c41), bv (bif decide ((s_.size : Int) < 1) then true else c41), AV.top, AV.top, AV.top, AV.top, AV.top, AV.top, AV.top, AV.top, AV.top, AV.top, AV.top, AV.top, AV.top, AV.top, AV.top, AV.top, AV.top, AV.top, AV.top, und, und, und, und, und, und, und, und, und, und, und, und] ∧ Hold B h43 []) (fun st tm h43 R => ?_) R
  obtain ⟨w45, w46⟩ := st
  obtain ⟨rfl, O44⟩ := R
  rw [e_lb1_spec_l01Number]
  unfold s1_spec_l01Number
  dsimp only
  refine sim_let (v := iv (s_.size : Int)) rfl ?_
  refine sim_let (v := bv (decide (w46 < (s_.size : Int)))) (aBin_lss _ _) ?_
  refine sim_cond (fun c64 => ?_) (fun c64 => ?_)
  · refine sim_getB (fun b65 => ?_)
    refine sim_callV1 (t := isDig) he_spec_l01Digit (snapD_byte _ b65) (fun c66 => ?_)
    refine sim_let (v := bv (!c66)) (aUn_not _) ?_
    refine sim_cond (fun c67 => ?_) (fun c67 => ?_)
    · exact sim_ret ⟨nofun, _, _, _, rfl, O44⟩
    · refine sim_let (v := iv (wr (10 * w45))) (aBin_mul _ _) ?_
      refine sim_getB (fun b69 => ?_)
      refine sim_let (v := bt (byteI ((b69.toNat : Int) - ((48 : UInt8).toNat : Int)))) (byte_sub b69 (48 : UInt8)) ?_
      refine sim_let (v := iv ((byteI ((b69.toNat : Int) - ((48 : UInt8).toNat : Int))).toNat : Int)) (conv_byte _) ?_
      refine sim_let (v := iv (wr ((wr (10 * w45)) + ((byteI ((b69.toNat : Int) - ((48 : UInt8).toNat : Int))).toNat : Int)))) (aBin_add _ _) ?_
      refine sim_let (v := iv (wr (w46 + 1))) (aBin_add _ _) ?_
      exact sim_ret ⟨rfl, rfl, O44⟩
  · exact sim_ret ⟨nofun, _, _, _, _, rfl, O44⟩
theorem ts_spec_l01Number (env : Nat → Contract) (he_spec_l01Dec : env n_spec_l01Dec = .pure (C1 (fun c : ByteArray => enc c) t_spec_l01Dec)) (he_spec_l01Digit : env n_spec_l01Digit = .pure (T1 isDig)) (s_ : ByteArray) : Sim (denFn Tryd.prog env n_spec_l01Number [sv s_] []) (t_spec_l01Number s_) fun c p => release p.2 depth p.1 = some ((fun c : Int × Bool => AV.tup [enc c.1, enc c.2]) c) := by
  have O := Hold.nil []
  generalize hB : (⟨[], []⟩ : Base) = B at O
  clear hB
  rw [e_spec_l01Number]
  unfold t_spec_l01Number
  refine sim_let (v := bv (!decide (s_ = (⟨#[]⟩ : ByteArray)))) (aCmp_neS _ _) ?_
  refine sim_guardT (e := bv) (fun hb1 => ?_) (fun c3 => ?_)
  · refine sim_getB (fun b2 => ?_)
    refine sim_let (v := bv (decide ((b2.toNat : Int) = 45))) rfl ?_
    exact sim_ret rfl
  · refine sim_let (v := bv (bif !decide (s_ = (⟨#[]⟩ : ByteArray)) then c3 else false)) (pick_b _ _ _) ?_
    refine sim_cond (fun c4 => ?_) (fun c4 => ?_)
    · refine sim_subB10 (fun s5 => ?_)
      refine sim_let (v := iv (s5.size : Int)) rfl ?_
      refine sim_let (v := bv (decide ((s5.size : Int) < 1))) (aBin_lss _ _) ?_
      refine sim_guardF (e := bv) (fun hb6 => ?_) (fun c7 => ?_)
      · refine sim_let (v := iv (s5.size : Int)) rfl ?_
        refine sim_let (v := bv (decide (18 < (s5.size : Int)))) (aBin_gtr _ _) ?_
        exact sim_ret rfl
      · refine sim_let (v := bv (bif decide ((s5.size : Int) < 1) then true else c7)) (pick_b' _ _ _) ?_
        refine sim_cond (fun c8 => ?_) (fun c8 => ?_)
        · exact sim_ret (release_plain (by rfl) _)
        · refine sim_bind ((tl0_spec_l01Number env he_spec_l01Dec he_spec_l01Digit s_ c3 s5 c7) ⟨rfl, O⟩) (fun qq39 r hq => ?_)
          rcases qq39 with q17 | ⟨q26, q27⟩
          · obtain ⟨q18, z15, z16, h13, rfl, O14⟩ := hq
            rw [e_lk0x0_spec_l01Number]
            refine sim_let (v := iv (s5.size : Int)) rfl ?_
            refine sim_let (v := iv (s_.size : Int)) rfl ?_
            refine sim_let (v := bv (decide ((s5.size : Int) < (s_.size : Int)))) (aBin_lss _ _) ?_
            refine sim_cond (fun c19 => ?_) (fun c19 => ?_)
            · refine sim_let (v := iv (wr (0 - q17))) (aUn_neg _) ?_
              refine sim_call1 he_spec_l01Dec (snapD_int _ _) (fun c20 => ?_)
              refine sim_let2 (hand_plain (by rfl) _ _) ?_
              refine sim_let (v := bv (!decide (c20 = s_))) (aCmp_neS _ _) ?_
              refine sim_cond (fun c21 => ?_) (fun c21 => ?_)
              · exact sim_ret (release_plain (by rfl) _)
              · exact sim_ret (release_plain (by rfl) _)
            · refine sim_call1 he_spec_l01Dec (snapD_int _ _) (fun c22 => ?_)
              refine sim_let2 (hand_plain (by rfl) _ _) ?_
              refine sim_let (v := bv (!decide (c22 = s_))) (aCmp_neS _ _) ?_
              refine sim_cond (fun c23 => ?_) (fun c23 => ?_)
              · exact sim_ret (release_plain (by rfl) _)
              · exact sim_ret (release_plain (by rfl) _)
          · obtain ⟨q28, q29, h24, rfl, O25⟩ := hq
            rw [e_lk0r_spec_l01Number]
            exact sim_ret (release_plain (by rfl) _)
    · refine sim_let (v := iv (s_.size : Int)) rfl ?_
      refine sim_let (v := bv (decide ((s_.size : Int) < 1))) (aBin_lss _ _) ?_
      refine sim_guardF (e := bv) (fun hb40 => ?_) (fun c41 => ?_)
      · refine sim_let (v := iv (s_.size : Int)) rfl ?_
        refine sim_let (v := bv (decide (18 < (s_.size : Int)))) (aBin_gtr _ _) ?_
        exact sim_ret rfl
      · refine sim_let (v := bv (bif decide ((s_.size : Int) < 1) then true else c41)) (pick_b' _ _ _) ?_
        refine sim_cond (fun c42 => ?_) (fun c42 => ?_)
        · exact sim_ret (release_plain (by rfl) _)
        · refine sim_bind ((tl1_spec_l01Number env he_spec_l01Dec he_spec_l01Digit s_ c3 c41) ⟨rfl, O⟩) (fun qq73 r hq => ?_)
          rcases qq73 with q51 | ⟨q60, q61⟩
          · obtain ⟨q52, z49, z50, h47, rfl, O48⟩ := hq
            rw [e_lk1x0_spec_l01Number]
            refine sim_let (v := iv (s_.size : Int)) rfl ?_
            refine sim_let (v := iv (s_.size : Int)) rfl ?_
            refine sim_let (v := bv (decide ((s_.size : Int) < (s_.size : Int)))) (aBin_lss _ _) ?_
            refine sim_cond (fun c53 => ?_) (fun c53 => ?_)
            · refine sim_let (v := iv (wr (0 - q51))) (aUn_neg _) ?_
              refine sim_call1 he_spec_l01Dec (snapD_int _ _) (fun c54 => ?_)
              refine sim_let2 (hand_plain (by rfl) _ _) ?_
              refine sim_let (v := bv (!decide (c54 = s_))) (aCmp_neS _ _) ?_
              refine sim_cond (fun c55 => ?_) (fun c55 => ?_)
              · exact sim_ret (release_plain (by rfl) _)
              · exact sim_ret (release_plain (by rfl) _)
            · refine sim_call1 he_spec_l01Dec (snapD_int _ _) (fun c56 => ?_)
              refine sim_let2 (hand_plain (by rfl) _ _) ?_
              refine sim_let (v := bv (!decide (c56 = s_))) (aCmp_neS _ _) ?_
              refine sim_cond (fun c57 => ?_) (fun c57 => ?_)
              · exact sim_ret (release_plain (by rfl) _)
              · exact sim_ret (release_plain (by rfl) _)
          · obtain ⟨q62, q63, h58, rfl, O59⟩ := hq
            rw [e_lk1r_spec_l01Number]
            exact sim_ret (release_plain (by rfl) _)
theorem tt_spec_l01Number : PureOK Tryd.prog n_spec_l01Number (C1 (fun c : Int × Bool => AV.tup [enc c.1, enc c.2]) t_spec_l01Number) := pureC1 (Econs tt_spec_l01Dec (Econs ok_spec_l01Digit E0)) mixed hb_spec_l01Number fun s_ => ts_spec_l01Number _ (by simp [envL]) (by simp [envL]) s_

def t_spec_l20Line (line_ : ByteArray) : Option (Symbol × Bool) :=
  obind (t_spec_l01Split line_ (32 : UInt8)) fun c5 =>
  bif !decide ((((c5.getD []).length : Nat) : Int) = 5) then
    some ((⟨(⟨#[]⟩ : ByteArray), ⟨0, 0, 0, 0⟩⟩ : Symbol), false)
  else
    obind (getI (c5.getD []) 1) fun a13 =>
    obind (t_spec_l01Number a13) fun c17 =>
    obind (getI (c5.getD []) 2) fun a18 =>
    obind (t_spec_l01Number a18) fun c22 =>
    obind (getI (c5.getD []) 3) fun a23 =>
    obind (t_spec_l01Number a23) fun c27 =>
    obind (getI (c5.getD []) 4) fun a28 =>
    obind (t_spec_l01Number a28) fun c32 =>
    obind (getI (c5.getD []) 0) fun a33 =>
    obind (bif c17.2 then (some c22.2) else some false) fun c38 =>
    obind (bif (bif c17.2 then c38 else false) then (some c27.2) else some false) fun c40 =>
    obind (bif (bif (bif c17.2 then c38 else false) then c40 else false) then (some c32.2) else some false) fun c42 =>
    some ((⟨a33, ⟨c17.1, c22.1, c27.1, c32.1⟩⟩ : Symbol), (bif (bif (bif c17.2 then c38 else false) then c40 else false) then c42 else false))

theorem ts_spec_l20Line (env : Nat → Contract) (he_spec_l01Number : env n_spec_l01Number = .pure (C1 (fun c : Int × Bool => AV.tup [enc c.1, enc c.2]) t_spec_l01Number)) (he_spec_l01Split : env n_spec_l01Split = .pure (C2 (fun c : (Sl ByteArray) => rS c) t_spec_l01Split)) (line_ : ByteArray) : Sim (denFn Tryd.prog env n_spec_l20Line [sv line_] []) (t_spec_l20Line line_) fun c p => release p.2 depth p.1 = some ((fun c : Symbol × Bool => AV.tup [enc c.1, enc c.2]) c) := by
  have O := Hold.nil []
  generalize hB : (⟨[], []⟩ : Base) = B at O
  clear hB
  rw [e_spec_l20Line]
  unfold t_spec_l20Line
  refine sim_box O (cs := [sv (⟨#[]⟩ : ByteArray), iv 0, iv 0, iv 0, iv 0]) (by first | rfl | simp) (fun o1 h2 O3 => ?_)
  replace O3 : Hold B h2 [(AV.ptr o1 1 0 0, .pt 5 [sv (⟨#[]⟩ : ByteArray), iv 0, iv 0, iv 0, iv 0])] := O3
  refine sim_call2 he_spec_l01Split (snapD_str _ _) (snapD_byte _ (32 : UInt8)) (fun c5 => ?_)
  refine sim_hand (A := ByteArray) O3 (fun x7 h8 O9 => ?_)
  replace O9 : Hold B h8 [(AV.ptr o1 1 0 0, .pt 5 [sv (⟨#[]⟩ : ByteArray), iv 0, iv 0, iv 0, iv 0]), (x7, obS (c5 : Sl ByteArray))] := O9
  refine sim_let (v := iv (((c5.getD []).length : Nat) : Int)) (O9.tab (A := ByteArray) (s := c5) 1 rfl).len ?_
  refine sim_let (v := bv (!decide ((((c5.getD []).length : Nat) : Int) = 5))) (aCmp_ne _ _) ?_
  refine sim_cond (fun c10 => ?_) (fun c10 => ?_)
  · refine sim_let (v := AV.agg [sv (⟨#[]⟩ : ByteArray), iv 0, iv 0, iv 0, iv 0]) (by first | rfl | simp [aBuild, aFill, splice]) ?_
    refine sim_store O9 0 (cs' := [sv (⟨#[]⟩ : ByteArray), iv 0, iv 0, iv 0, iv 0]) rfl (by first | rfl | simp) (by simp) (by first | rfl | simp) (by first | rfl | simp [splice]) (fun h11 O12 => ?_)
    replace O12 : Hold B h11 [(AV.ptr o1 1 0 0, .pt 5 [sv (⟨#[]⟩ : ByteArray), iv 0, iv 0, iv 0, iv 0]), (x7, obS (c5 : Sl ByteArray))] := O12
    refine sim_retL (resL_c (v := AV.agg [sv (⟨#[]⟩ : ByteArray), iv 0, iv 0, iv 0, iv 0]) (O12.ld 0 rfl true 5 0) (resL_v (v := bv false) (resL_nil _))) ?_
    dsimp only [pack]
    exact sim_ret (release_plain (by rfl) _)
  · refine sim_get (O9.tab (A := ByteArray) (s := c5) 1 rfl) (fun m14 a13 hi15 hm16 => ?_)
    refine sim_let (v := sv a13) ((O9.tab (A := ByteArray) (s := c5) 1 rfl).ld hm16 false 1 0) ?_
    refine sim_call1 he_spec_l01Number (snapD_str _ _) (fun c17 => ?_)
    refine sim_let2 (hand_plain (by rfl) _ _) ?_
    refine sim_let (v := iv c17.1) rfl ?_
    refine sim_let (v := bv c17.2) rfl ?_
    refine sim_get (O9.tab (A := ByteArray) (s := c5) 1 rfl) (fun m19 a18 hi20 hm21 => ?_)
    refine sim_let (v := sv a18) ((O9.tab (A := ByteArray) (s := c5) 1 rfl).ld hm21 false 1 0) ?_
    refine sim_call1 he_spec_l01Number (snapD_str _ _) (fun c22 => ?_)
    refine sim_let2 (hand_plain (by rfl) _ _) ?_
    refine sim_let (v := iv c22.1) rfl ?_
    refine sim_let (v := bv c22.2) rfl ?_
    refine sim_get (O9.tab (A := ByteArray) (s := c5) 1 rfl) (fun m24 a23 hi25 hm26 => ?_)
    refine sim_let (v := sv a23) ((O9.tab (A := ByteArray) (s := c5) 1 rfl).ld hm26 false 1 0) ?_
    refine sim_call1 he_spec_l01Number (snapD_str _ _) (fun c27 => ?_)
    refine sim_let2 (hand_plain (by rfl) _ _) ?_
    refine sim_let (v := iv c27.1) rfl ?_
    refine sim_let (v := bv c27.2) rfl ?_
    refine sim_get (O9.tab (A := ByteArray) (s := c5) 1 rfl) (fun m29 a28 hi30 hm31 => ?_)
    refine sim_let (v := sv a28) ((O9.tab (A := ByteArray) (s := c5) 1 rfl).ld hm31 false 1 0) ?_
    refine sim_call1 he_spec_l01Number (snapD_str _ _) (fun c32 => ?_)
    refine sim_let2 (hand_plain (by rfl) _ _) ?_
    refine sim_let (v := iv c32.1) rfl ?_
    refine sim_let (v := bv c32.2) rfl ?_
    refine sim_get (O9.tab (A := ByteArray) (s := c5) 1 rfl) (fun m34 a33 hi35 hm36 => ?_)
    refine sim_let (v := sv a33) ((O9.tab (A := ByteArray) (s := c5) 1 rfl).ld hm36 false 1 0) ?_
    refine sim_let (v := AV.agg [iv c17.1, iv c22.1, iv c27.1, iv c32.1]) (by first | rfl | simp [aBuild, aFill, splice]) ?_
    refine sim_let (v := AV.agg [sv a33, iv c17.1, iv c22.1, iv c27.1, iv c32.1]) (by first | rfl | simp [aBuild, aFill, splice]) ?_
    refine sim_guardT (e := bv) (fun hb37 => ?_) (fun c38 => ?_)
    · exact sim_ret rfl
    · refine sim_let (v := bv (bif c17.2 then c38 else false)) (pick_b _ _ _) ?_
      refine sim_guardT (e := bv) (fun hb39 => ?_) (fun c40 => ?_)
      · exact sim_ret rfl
      · refine sim_let (v := bv (bif (bif c17.2 then c38 else false) then c40 else false)) (pick_b _ _ _) ?_
        refine sim_guardT (e := bv) (fun hb41 => ?_) (fun c42 => ?_)
        · exact sim_ret rfl
        · refine sim_let (v := bv (bif (bif (bif c17.2 then c38 else false) then c40 else false) then c42 else false)) (pick_b _ _ _) ?_
          refine sim_store O9 0 (cs' := [sv a33, iv c17.1, iv c22.1, iv c27.1, iv c32.1]) rfl (by first | rfl | simp) (by simp) (by first | rfl | simp) (by first | rfl | simp [splice]) (fun h43 O44 => ?_)
          replace O44 : Hold B h43 [(AV.ptr o1 1 0 0, .pt 5 [sv a33, iv c17.1, iv c22.1, iv c27.1, iv c32.1]), (x7, obS (c5 : Sl ByteArray))] := O44
          refine sim_retL (resL_c (v := AV.agg [sv a33, iv c17.1, iv c22.1, iv c27.1, iv c32.1]) (O44.ld 0 rfl true 5 0) (resL_v (v := bv (bif (bif (bif c17.2 then c38 else false) then c40 else false) then c42 else false)) (resL_nil _))) ?_
          dsimp only [pack]
          exact sim_ret (release_plain (by rfl) _)
theorem tt_spec_l20Line : PureOK Tryd.prog n_spec_l20Line (C1 (fun c : Symbol × Bool => AV.tup [enc c.1, enc c.2]) t_spec_l20Line) := pureC1 (Econs tt_spec_l01Number (Econs tt_spec_l01Split E0)) mixed hb_spec_l20Line fun line_ => ts_spec_l20Line _ (by simp [envL]) (by simp [envL]) line_

def s0_spec_ReadSymbols (c1 : (Sl ByteArray)) : ((Sl Symbol) × Int) → Option (Sum ((Sl Symbol) × Int) (Sum (Sl Symbol) Bool)) := fun (w16, w19) =>
  bif decide (w19 < (wr ((((c1.getD []).length : Nat) : Int) - 1))) then
    obind (getI (c1.getD []) w19) fun a41 =>
    obind (t_spec_l20Line a41) fun c45 =>
    bif !c45.2 then
      some (.inr (.inr false))
    else
      obind (appO w16 ([c45.1] : List Symbol)) fun _ =>
      some (.inl ((appS w16 ([c45.1] : List Symbol)), wr (w19 + 1)))
  else
    some (.inr (.inl w16))
def t_spec_ReadSymbols (s_ : ByteArray) : Option ((Sl Symbol) × Bool) :=
  obind (t_spec_l01Split s_ (10 : UInt8)) fun c1 =>
  obind (getI (c1.getD []) (wr ((((c1.getD []).length : Nat) : Int) - 1))) fun a10 =>
  bif !decide (a10 = (⟨#[]⟩ : ByteArray)) then
    some ((none : Sl Symbol), false)
  else
    obind (loopT (s0_spec_ReadSymbols c1) ((some ([] : List Symbol)), 0)) fun qq67 => match qq67 with
    | (.inl q23) =>
        obind (t_spec_l20Ok q23) fun c29 =>
        bif !c29 then
          some ((none : Sl Symbol), false)
        else
          some (q23, true)
    | (.inr q36) =>
        some ((none : Sl Symbol), q36)

theorem tl0_spec_ReadSymbols (env : Nat → Contract) {B : Base} (he_spec_l01Split : env n_spec_l01Split = .pure (C2 (fun c : (Sl ByteArray) => rS c) t_spec_l01Split)) (he_spec_l20Line : env n_spec_l20Line = .pure (C1 (fun c : Symbol × Bool => AV.tup [enc c.1, enc c.2]) t_spec_l20Line)) (he_spec_l20Ok : env n_spec_l20Ok = .pure (C1 (fun c : Bool => enc c) t_spec_l20Ok)) (s_ : ByteArray) (c1 : (Sl ByteArray)) (x3 : AV) (x6 : AV) (a10 : ByteArray) (m11 : Nat)  {st : (Sl Symbol) × Int} {tm : TM} {h : Heap} (R : (fun (st : (Sl Symbol) × Int) tm h17 => match st with | (w16, w19) => ∃ z15, tm = [sv s_, und, AV.top, AV.top, x3, z15, iv w19, AV.top, AV.top, sv s_, x3, x6, x3, x3, iv (((c1.getD []).length : Nat) : Int), iv (wr ((((c1.getD []).length : Nat) : Int) - 1)), elp x3 m11 0, sv a10, bv (!decide (a10 = (⟨#[]⟩ : ByteArray))), AV.top, AV.top, AV.top, AV.top, AV.top, AV.top, AV.top, AV.top, AV.top, AV.top, AV.top, AV.top, AV.top, AV.top, AV.top, AV.top, AV.top, AV.top, AV.top, AV.top, AV.top, und, und, und, und] ∧ Hold B h17 [(x3, obS (c1 : Sl ByteArray)), (z15, obS (w16 : Sl Symbol))]) st tm h) : Sim (loopP hm0_spec_ReadSymbols xm0_spec_ReadSymbols (lb0_spec_ReadSymbols env) tm h) (loopT (s0_spec_ReadSymbols c1) st) (fun (q : Sum (Sl Symbol) Bool) (r : Res) => match q with | .inl q23 => ∃ (q26 : Int) (z22 : AV) (z24 : AV) (z25 : AV) (z27 : AV) (z28 : AV) (h20 : Heap), r = (.exit 0, [sv s_, und, z24, z25, x3, z22, iv q26, z27, z28, sv s_, x3, x6, x3, x3, iv (((c1.getD []).length : Nat) : Int), iv (wr ((((c1.getD []).length : Nat) : Int) - 1)), elp x3 m11 0, sv a10, bv (!decide (a10 = (⟨#[]⟩ : ByteArray))), AV.top, AV.top, AV.top, AV.top, AV.top, AV.top, AV.top, AV.top, AV.top, AV.top, AV.top, AV.top, AV.top, AV.top, AV.top, AV.top, AV.top, AV.top, AV.top, AV.top, AV.top, und, und, und, und], h20) ∧ Hold B h20 [(x3, obS (c1 : Sl ByteArray)), (z22, obS (q23 : Sl Symbol))] | .inr q36 => ∃ (q35 : Sl Symbol) (q37 : Int) (q39 : Bool) (z34 : AV) (z38 : AV) (h32 : Heap), r = (.ret, [sv s_, und, nilS, bv q36, x3, z34, iv q37, z38, bv q39, sv s_, x3, x6, x3, x3, iv (((c1.getD []).length : Nat) : Int), iv (wr ((((c1.getD []).length : Nat) : Int) - 1)), elp x3 m11 0, sv a10, bv (!decide (a10 = (⟨#[]⟩ : ByteArray))), AV.top, AV.top, AV.top, AV.top, AV.top, AV.top, AV.top, AV.top, AV.top, AV.top, AV.top, AV.top, AV.top, AV.top, AV.top, AV.top, AV.top, AV.top, AV.top, AV.top, AV.top, und, und, und, und], h32) ∧ Hold B h32 [(x3, obS (c1 : Sl ByteArray)), (z34, obS (q35 : Sl Symbol))]) := by
  refine loop_sim (Rel := fun (st : (Sl Symbol) × Int) tm h17 => match st with | (w16, w19) => ∃ z15, tm = [sv s_, und, AV.top, AV.top, x3, z15, iv w19, AV.top, AV.top, sv s_, x3, x6, x3, x3, iv (((c1.getD []).length : Nat) : Int), iv (wr ((((c1.getD []).length : Nat) : Int) - 1)), elp x3 m11 0, sv a10, bv (!decide (a10 = (⟨#[]⟩ : ByteArray))), AV.top, AV.top, AV.top, AV.top, AV.top, AV.top, AV.top, AV.top, AV.top, AV.top, AV.top, AV.top, AV.top, AV.top, AV.top, AV.top, AV.top, AV.top, AV.top, AV.top, AV.top, und, und, und, und] ∧ Hold B h17 [(x3, obS (c1 : Sl ByteArray)), (z15, obS (w16 : Sl Symbol))]) (fun st tm h17 R => ?_) R
  obtain ⟨w16, w19⟩ := st
  obtain ⟨z15, rfl, O18⟩ := R
  rw [e_lb0_spec_ReadSymbols]
  unfold s0_spec_ReadSymbols
  dsimp only
  refine sim_let (v := iv (((c1.getD []).length : Nat) : Int)) (O18.tab (A := ByteArray) (s := c1) 0 rfl).len ?_
  refine sim_let (v := iv (wr ((((c1.getD []).length : Nat) : Int) - 1))) (aBin_sub _ _) ?_
  refine sim_let (v := bv (decide (w19 < (wr ((((c1.getD []).length : Nat) : Int) - 1))))) (aBin_lss _ _) ?_
  refine sim_cond (fun c40 => ?_) (fun c40 => ?_)
  · refine sim_get (O18.tab (A := ByteArray) (s := c1) 0 rfl) (fun m42 a41 hi43 hm44 => ?_)
    refine sim_let (v := sv a41) ((O18.tab (A := ByteArray) (s := c1) 0 rfl).ld hm44 false 1 0) ?_
    refine sim_call1 he_spec_l20Line (snapD_str _ _) (fun c45 => ?_)
    refine sim_let2 (hand_plain (by rfl) _ _) ?_
    refine sim_let (v := AV.agg [sv c45.1.label, iv c45.1.box.x1, iv c45.1.box.y1, iv c45.1.box.x2, iv c45.1.box.y2]) rfl ?_
    refine sim_let (v := bv c45.2) rfl ?_
    refine sim_box O18 (cs := [sv (⟨#[]⟩ : ByteArray), iv 0, iv 0, iv 0, iv 0]) (by first | rfl | simp) (fun o46 h47 O48 => ?_)
    replace O48 : Hold B h47 [(x3, obS (c1 : Sl ByteArray)), (z15, obS (w16 : Sl Symbol)), (AV.ptr o46 1 0 0, .pt 5 [sv (⟨#[]⟩ : ByteArray), iv 0, iv 0, iv 0, iv 0])] := O48
    refine sim_store O48 2 (cs' := [sv c45.1.label, iv c45.1.box.x1, iv c45.1.box.y1, iv c45.1.box.x2, iv c45.1.box.y2]) rfl (by first | rfl | simp) (by simp) (by first | rfl | simp) (by first | rfl | simp [splice]) (fun h50 O51 => ?_)
    replace O51 : Hold B h50 [(x3, obS (c1 : Sl ByteArray)), (z15, obS (w16 : Sl Symbol)), (AV.ptr o46 1 0 0, .pt 5 [sv c45.1.label, iv c45.1.box.x1, iv c45.1.box.y1, iv c45.1.box.x2, iv c45.1.box.y2])] := O51
    refine sim_let (v := bv (!c45.2)) (aUn_not _) ?_
    refine sim_cond (fun c52 => ?_) (fun c52 => ?_)
    · have O53 : Hold B h50 [(x3, obS (c1 : Sl ByteArray)), (z15, obS (w16 : Sl Symbol))] := O51.sel [0, 1] (by decide) rfl
      exact sim_ret ⟨nofun, _, _, _, _, _, _, rfl, O53⟩
    · refine sim_let (v := AV.agg [sv c45.1.label, iv c45.1.box.x1, iv c45.1.box.y1, iv c45.1.box.x2, iv c45.1.box.y2]) (O51.ld 2 rfl true 5 0) ?_
      refine sim_build (A := Symbol) O51 ([c45.1] : List Symbol) rfl (by first | rfl | simp [aFillRows, zrows]) rfl (fun x54 h55 O56 => ?_)
      replace O56 : Hold B h55 [(x3, obS (c1 : Sl ByteArray)), (z15, obS (w16 : Sl Symbol)), (AV.ptr o46 1 0 0, .pt 5 [sv c45.1.label, iv c45.1.box.x1, iv c45.1.box.y1, iv c45.1.box.x2, iv c45.1.box.y2]), (x54, obS ((some ([c45.1] : List Symbol)) : Sl Symbol))] := O56
      refine sim_append (A := Symbol) (s := w16) O56 1 ([c45.1] : List Symbol) rfl (O56.src (A := Symbol) (s := (some ([c45.1] : List Symbol))) 3 rfl) (by decide) (fun x59 h60 O61 => ?_)
      replace O61 : Hold B h60 [(x3, obS (c1 : Sl ByteArray)), (x59, obS ((appS w16 ([c45.1] : List Symbol)) : Sl Symbol)), (AV.ptr o46 1 0 0, .pt 5 [sv c45.1.label, iv c45.1.box.x1, iv c45.1.box.y1, iv c45.1.box.x2, iv c45.1.box.y2]), (x54, obS ((some ([c45.1] : List Symbol)) : Sl Symbol))] := O61
      have O63 : Hold B h60 [(x3, obS (c1 : Sl ByteArray)), (x59, obS ((appS w16 ([c45.1] : List Symbol)) : Sl Symbol)), (AV.ptr o46 1 0 0, .pt 5 [sv c45.1.label, iv c45.1.box.x1, iv c45.1.box.y1, iv c45.1.box.x2, iv c45.1.box.y2])] := O61.sel [0, 1, 2] (by decide) rfl
      refine sim_let (v := iv (wr (w19 + 1))) (aBin_add _ _) ?_
      have O64 : Hold B h60 [(x3, obS (c1 : Sl ByteArray)), (x59, obS ((appS w16 ([c45.1] : List Symbol)) : Sl Symbol))] := O63.sel [0, 1] (by decide) rfl
      exact sim_ret ⟨rfl, _, rfl, O64⟩
  · exact sim_ret ⟨nofun, _, _, _, _, _, _, _, rfl, O18⟩
theorem ts_spec_ReadSymbols (env : Nat → Contract) (he_spec_l01Split : env n_spec_l01Split = .pure (C2 (fun c : (Sl ByteArray) => rS c) t_spec_l01Split)) (he_spec_l20Line : env n_spec_l20Line = .pure (C1 (fun c : Symbol × Bool => AV.tup [enc c.1, enc c.2]) t_spec_l20Line)) (he_spec_l20Ok : env n_spec_l20Ok = .pure (C1 (fun c : Bool => enc c) t_spec_l20Ok)) (s_ : ByteArray) : Sim (denFn Tryd.prog env n_spec_ReadSymbols [sv s_] []) (t_spec_ReadSymbols s_) fun c p => release p.2 depth p.1 = some ((fun c : (Sl Symbol) × Bool => AV.tup [rS c.1, enc c.2]) c) := by
  have O := Hold.nil []
  generalize hB : (⟨[], []⟩ : Base) = B at O
  clear hB
  rw [e_spec_ReadSymbols]
  unfold t_spec_ReadSymbols
  refine sim_call2 he_spec_l01Split (snapD_str _ _) (snapD_byte _ (10 : UInt8)) (fun c1 => ?_)
  refine sim_hand (A := ByteArray) O (fun x3 h4 O5 => ?_)
  replace O5 : Hold B h4 [(x3, obS (c1 : Sl ByteArray))] := O5
  refine sim_build (A := Symbol) O5 ([] : List Symbol) rfl (by first | rfl | simp [aFillRows, zrows]) rfl (fun x6 h7 O8 => ?_)
  replace O8 : Hold B h7 [(x3, obS (c1 : Sl ByteArray)), (x6, obS ((some ([] : List Symbol)) : Sl Symbol))] := O8
  refine sim_let (v := iv (((c1.getD []).length : Nat) : Int)) (O8.tab (A := ByteArray) (s := c1) 0 rfl).len ?_
  refine sim_let (v := iv (wr ((((c1.getD []).length : Nat) : Int) - 1))) (aBin_sub _ _) ?_
  refine sim_get (O8.tab (A := ByteArray) (s := c1) 0 rfl) (fun m11 a10 hi12 hm13 => ?_)
  refine sim_let (v := sv a10) ((O8.tab (A := ByteArray) (s := c1) 0 rfl).ld hm13 false 1 0) ?_
  refine sim_let (v := bv (!decide (a10 = (⟨#[]⟩ : ByteArray)))) (aCmp_neS _ _) ?_
  refine sim_cond (fun c14 => ?_) (fun c14 => ?_)
  · exact sim_ret (release_plain (by rfl) _)
  · refine sim_bind ((tl0_spec_ReadSymbols env he_spec_l01Split he_spec_l20Line he_spec_l20Ok s_ c1 x3 x6 a10 m11) ⟨_, rfl, O8⟩) (fun qq67 r hq => ?_)
    rcases qq67 with q23 | q36
    · obtain ⟨q26, z22, z24, z25, z27, z28, h20, rfl, O21⟩ := hq
      rw [e_lk0x0_spec_ReadSymbols]
      refine sim_call1 he_spec_l20Ok ((O21.tab (A := Symbol) (s := q23) 1 rfl).snap) (fun c29 => ?_)
      refine sim_let2 (hand_plain (by rfl) _ _) ?_
      refine sim_let (v := bv (!c29)) (aUn_not _) ?_
      refine sim_cond (fun c30 => ?_) (fun c30 => ?_)
      · exact sim_ret (release_plain (by rfl) _)
      · have O31 : Hold B h20 [(z22, obS (q23 : Sl Symbol))] := O21.sel [1] (by decide) rfl
        exact sim_ret (release_of (by simp only [ids_tup, ids_aggD, ids_agg, ids_iv, ids_bv, ids_sv, ids_bt, ids_nilS, ids_enc, O31.idsD (A := Symbol) (s := q23) 0 rfl, List.map_append, List.map_nil, List.flatMap_cons, List.flatMap_nil, List.append_nil, List.nil_append]; simpa only [List.flatMap_cons, List.flatMap_nil, List.append_nil, List.nil_append] using O31.nd2) (by simp only [rel_tup, rel_aggD, rel_agg, rel_iv, rel_bv, rel_sv, rel_bt, rel_nilS, rel_enc, O31.relD (A := Symbol) (s := q23) 0 rfl, omapc, omapn, obind_sm] <;> rfl))
    · obtain ⟨q35, q37, q39, z34, z38, h32, rfl, O33⟩ := hq
      rw [e_lk0r_spec_ReadSymbols]
      exact sim_ret (release_plain (by rfl) _)
theorem tt_spec_ReadSymbols : PureOK Tryd.prog n_spec_ReadSymbols (C1 (fun c : (Sl Symbol) × Bool => AV.tup [rS c.1, enc c.2]) t_spec_ReadSymbols) := pureC1 (Econs tt_spec_l01Split (Econs tt_spec_l20Line (Econs tt_spec_l20Ok E0))) mixed hb_spec_ReadSymbols fun s_ => ts_spec_ReadSymbols _ (by simp [envL]) (by simp [envL]) (by simp [envL]) s_

def s0_laws_markText : (Int × ByteArray) → Option (Sum (Int × ByteArray) ByteArray) := fun (w4, w5) =>
  bif decide (0 < w4) then
    obind (catO (strL ((some ([byteI (wr (48 + (Int.tmod w4 10)))] : List UInt8)).getD [])) w5) fun s16 =>
    some (.inl (wr (Int.tdiv w4 10), s16))
  else
    some (.inr w5)
def t_laws_markText (k_ : Int) : Option ByteArray :=
  bif decide (k_ ≤ 0) then
    some (⟨#[109, 48]⟩ : ByteArray)
  else
    obind (loopT s0_laws_markText (k_, (⟨#[]⟩ : ByteArray))) fun q9 =>
    obind (catO (⟨#[109]⟩ : ByteArray) q9) fun s10 =>
    some s10

theorem tl0_laws_markText (env : Nat → Contract) {B : Base}  (k_ : Int)  {st : Int × ByteArray} {tm : TM} {h : Heap} (R : (fun (st : Int × ByteArray) tm h2 => match st with | (w4, w5) => tm = [iv w4, und, sv (⟨#[]⟩ : ByteArray), sv w5, iv k_, bv (decide (k_ ≤ 0)), AV.top, AV.top, AV.top, AV.top, AV.top, AV.top, AV.top, AV.top, AV.top, AV.top, AV.top, AV.top, und, und] ∧ Hold B h2 []) st tm h) : Sim (loopP hm0_laws_markText xm0_laws_markText (lb0_laws_markText env) tm h) (loopT s0_laws_markText st) (fun (q : ByteArray) (r : Res) => match q with | q9 => ∃ (q8 : Int) (h6 : Heap), r = (.exit 0, [iv q8, und, sv (⟨#[]⟩ : ByteArray), sv q9, iv k_, bv (decide (k_ ≤ 0)), AV.top, AV.top, AV.top, AV.top, AV.top, AV.top, AV.top, AV.top, AV.top, AV.top, AV.top, AV.top, und, und], h6) ∧ Hold B h6 []) := by
  refine loop_sim (Rel := fun (st : Int × ByteArray) tm h2 => match st with | (w4, w5) => tm = [iv w4, und, sv (⟨#[]⟩ : ByteArray), sv w5, iv k_, bv (decide (k_ ≤ 0)), AV.top, AV.top, AV.top, AV.top, AV.top, AV.top, AV.top, AV.top, AV.top, AV.top, AV.top, AV.top, und, und] ∧ Hold B h2 []) (fun st tm h2 R => ?_) R
  obtain ⟨w4, w5⟩ := st
  obtain ⟨rfl, O3⟩ := R
  rw [e_lb0_laws_markText]
  unfold s0_laws_markText
  dsimp only
  refine sim_let (v := bv (decide (0 < w4))) (aBin_gtr _ _) ?_
  refine sim_cond (fun c11 => ?_) (fun c11 => ?_)
  · refine sim_let (v := iv (Int.tmod w4 10)) (aBin_rem _ _ (by decide)) ?_
    refine sim_let (v := iv (wr (48 + (Int.tmod w4 10)))) (aBin_add _ _) ?_
    refine sim_let (v := bt (byteI (wr (48 + (Int.tmod w4 10))))) (conv_u8 _) ?_
    refine sim_build (A := UInt8) O3 ([byteI (wr (48 + (Int.tmod w4 10)))] : List UInt8) rfl (by first | rfl | simp [aFillRows, zrows]) rfl (fun x12 h13 O14 => ?_)
    replace O14 : Hold B h13 [(x12, obS ((some ([byteI (wr (48 + (Int.tmod w4 10)))] : List UInt8)) : Sl UInt8))] := O14
    refine sim_let (v := sv (strL ((some ([byteI (wr (48 + (Int.tmod w4 10)))] : List UInt8)).getD []))) (conv_str (s := (some ([byteI (wr (48 + (Int.tmod w4 10)))] : List UInt8))) (O14.src (A := UInt8) (s := (some ([byteI (wr (48 + (Int.tmod w4 10)))] : List UInt8))) 0 rfl)) ?_
    refine sim_cat (fun s16 => ?_)
    refine sim_let (v := iv (wr (Int.tdiv w4 10))) (aBin_quo _ _ (by decide)) ?_
    have O17 : Hold B h13 [] := O14.sel [] (by decide) rfl
    exact sim_ret ⟨rfl, rfl, O17⟩
  · exact sim_ret ⟨nofun, _, _, rfl, O3⟩
theorem ts_laws_markText (env : Nat → Contract)  (k_ : Int) : Sim (denFn Tryd.prog env n_laws_markText [iv k_] []) (t_laws_markText k_) fun c p => release p.2 depth p.1 = some ((fun c : ByteArray => enc c) c) := by
  have O := Hold.nil []
  generalize hB : (⟨[], []⟩ : Base) = B at O
  clear hB
  rw [e_laws_markText]
  unfold t_laws_markText
  refine sim_let (v := bv (decide (k_ ≤ 0))) (aBin_leq _ _) ?_
  refine sim_cond (fun c1 => ?_) (fun c1 => ?_)
  · exact sim_ret (release_plain (by rfl) _)
  · refine sim_bind ((tl0_laws_markText env k_) ⟨rfl, O⟩) (fun qq20 r hq => ?_)
    revert hq
    revert qq20
    intro q9 hq
    obtain ⟨q8, h6, rfl, O7⟩ := hq
    rw [e_lk0x0_laws_markText]
    refine sim_cat (fun s10 => ?_)
    exact sim_ret (release_plain (by rfl) _)
theorem tt_laws_markText : PureOK Tryd.prog n_laws_markText (C1 (fun c : ByteArray => enc c) t_laws_markText) := pureC1 E0 mixed hb_laws_markText fun k_ => ts_laws_markText _  k_

def s0_laws_heldSymbolS (a_ : Sl Symbol) : (Int × Int) → Option (Sum (Int × Int) (Sum Int Int)) := fun (w3, w4) =>
  bif decide (w4 < (((a_.getD []).length : Nat) : Int)) then
    obind (getI (a_.getD []) w4) fun a16 =>
    obind (t_laws_markText w3) fun c20 =>
    bif !decide (a16.label = c20) then
      some (.inr (.inr (-1)))
    else
      obind (getI (a_.getD []) w4) fun a23 =>
      bif !decide (a23.box.x1 = wr (w3 + 1)) then
        some (.inr (.inr (-1)))
      else
        obind (getI (a_.getD []) w4) fun a29 =>
        bif !decide (a29.box.y1 = wr ((wr (w3 + 1)) + 1)) then
          some (.inr (.inr (-1)))
        else
          obind (getI (a_.getD []) w4) fun a35 =>
          bif !decide (a35.box.x2 = wr ((wr ((wr (w3 + 1)) + 1)) + 1)) then
            some (.inr (.inr (-1)))
          else
            obind (getI (a_.getD []) w4) fun a41 =>
            bif !decide (a41.box.y2 = wr ((wr ((wr ((wr (w3 + 1)) + 1)) + 1)) + 1)) then
              some (.inr (.inr (-1)))
            else
              some (.inl (wr ((wr ((wr ((wr ((wr (w3 + 1)) + 1)) + 1)) + 1)) + 1), wr (w4 + 1)))
  else
    some (.inr (.inl w3))
def t_laws_heldSymbolS (a_ : Sl Symbol) (k_ : Int) : Option Int :=
  obind (loopT (s0_laws_heldSymbolS a_) (k_, 0)) fun qq50 => match qq50 with
  | (.inl q7) =>
      some q7
  | (.inr q13) =>
      some q13

theorem tl0_laws_heldSymbolS (env : Nat → Contract) {B : Base} (he_laws_markText : env n_laws_markText = .pure (C1 (fun c : ByteArray => enc c) t_laws_markText)) (a_ : Sl Symbol)  {st : Int × Int} {tm : TM} {h : Heap} (R : (fun (st : Int × Int) tm h1 => match st with | (w3, w4) => tm = ((Sl.enc a_) :: (iv w3) :: und :: und :: AV.top :: (iv w4) :: AV.top :: AV.top :: AV.top :: AV.top :: AV.top :: AV.top :: AV.top :: AV.top :: AV.top :: AV.top :: AV.top :: AV.top :: AV.top :: AV.top :: AV.top :: AV.top :: AV.top :: AV.top :: AV.top :: AV.top :: AV.top :: AV.top :: AV.top :: AV.top :: AV.top :: AV.top :: AV.top :: AV.top :: AV.top :: AV.top :: AV.top :: AV.top :: AV.top :: AV.top :: AV.top :: AV.top :: AV.top :: AV.top :: AV.top :: AV.top :: AV.top :: AV.top :: AV.top :: AV.top :: AV.top :: AV.top :: AV.top :: AV.top :: AV.top :: AV.top :: AV.top :: AV.top :: AV.top :: AV.top :: AV.top :: AV.top :: und :: []) ∧ Hold B h1 []) st tm h) : Sim (loopP hm0_laws_heldSymbolS xm0_laws_heldSymbolS (lb0_laws_heldSymbolS env) tm h) (loopT (s0_laws_heldSymbolS a_) st) (fun (q : Sum Int Int) (r : Res) => match q with | .inl q7 => ∃ (q9 : Int) (z8 : AV) (h5 : Heap), r = (.exit 0, ((Sl.enc a_) :: (iv q7) :: und :: und :: z8 :: (iv q9) :: AV.top :: AV.top :: AV.top :: AV.top :: AV.top :: AV.top :: AV.top :: AV.top :: AV.top :: AV.top :: AV.top :: AV.top :: AV.top :: AV.top :: AV.top :: AV.top :: AV.top :: AV.top :: AV.top :: AV.top :: AV.top :: AV.top :: AV.top :: AV.top :: AV.top :: AV.top :: AV.top :: AV.top :: AV.top :: AV.top :: AV.top :: AV.top :: AV.top :: AV.top :: AV.top :: AV.top :: AV.top :: AV.top :: AV.top :: AV.top :: AV.top :: AV.top :: AV.top :: AV.top :: AV.top :: AV.top :: AV.top :: AV.top :: AV.top :: AV.top :: AV.top :: AV.top :: AV.top :: AV.top :: AV.top :: AV.top :: und :: []), h5) ∧ Hold B h5 [] | .inr q13 => ∃ (q12 : Int) (q14 : Int) (h10 : Heap), r = (.ret, ((Sl.enc a_) :: (iv q12) :: und :: und :: (iv q13) :: (iv q14) :: AV.top :: AV.top :: AV.top :: AV.top :: AV.top :: AV.top :: AV.top :: AV.top :: AV.top :: AV.top :: AV.top :: AV.top :: AV.top :: AV.top :: AV.top :: AV.top :: AV.top :: AV.top :: AV.top :: AV.top :: AV.top :: AV.top :: AV.top :: AV.top :: AV.top :: AV.top :: AV.top :: AV.top :: AV.top :: AV.top :: AV.top :: AV.top :: AV.top :: AV.top :: AV.top :: AV.top :: AV.top :: AV.top :: AV.top :: AV.top :: AV.top :: AV.top :: AV.top :: AV.top :: AV.top :: AV.top :: AV.top :: AV.top :: AV.top :: AV.top :: AV.top :: AV.top :: AV.top :: AV.top :: AV.top :: AV.top :: und :: []), h10) ∧ Hold B h10 []) := by
  refine loop_sim (Rel := fun (st : Int × Int) tm h1 => match st with | (w3, w4) => tm = ((Sl.enc a_) :: (iv w3) :: und :: und :: AV.top :: (iv w4) :: AV.top :: AV.top :: AV.top :: AV.top :: AV.top :: AV.top :: AV.top :: AV.top :: AV.top :: AV.top :: AV.top :: AV.top :: AV.top :: AV.top :: AV.top :: AV.top :: AV.top :: AV.top :: AV.top :: AV.top :: AV.top :: AV.top :: AV.top :: AV.top :: AV.top :: AV.top :: AV.top :: AV.top :: AV.top :: AV.top :: AV.top :: AV.top :: AV.top :: AV.top :: AV.top :: AV.top :: AV.top :: AV.top :: AV.top :: AV.top :: AV.top :: AV.top :: AV.top :: AV.top :: AV.top :: AV.top :: AV.top :: AV.top :: AV.top :: AV.top :: AV.top :: AV.top :: AV.top :: AV.top :: AV.top :: AV.top :: und :: []) ∧ Hold B h1 []) (fun st tm h1 R => ?_) R
  obtain ⟨w3, w4⟩ := st
  obtain ⟨rfl, O2⟩ := R
  rw [e_lb0_laws_heldSymbolS]
  unfold s0_laws_heldSymbolS
  dsimp only
  refine sim_let (v := iv (((a_.getD []).length : Nat) : Int)) (Tab.enc h1 a_).len ?_
  refine sim_let (v := bv (decide (w4 < (((a_.getD []).length : Nat) : Int)))) (aBin_lss _ _) ?_
  refine sim_cond (fun c15 => ?_) (fun c15 => ?_)
  · refine sim_get (Tab.enc h1 a_) (fun m17 a16 hi18 hm19 => ?_)
    refine sim_let (v := elp (Sl.enc a_) m17 0) ((Tab.enc h1 a_).fld _ _ _) ?_
    refine sim_let (v := sv a16.label) ((Tab.enc h1 a_).ld hm19 false 1 0) ?_
    refine sim_callQ1 he_laws_markText (snapD_int _ _) (fun c20 => ?_)
    refine sim_let2 (hand_plain (by rfl) _ _) ?_
    refine sim_let (v := bv (!decide (a16.label = c20))) (aCmp_neS _ _) ?_
    refine sim_cond (fun c21 => ?_) (fun c21 => ?_)
    · exact sim_ret ⟨nofun, _, _, _, rfl, O2⟩
    · refine sim_let (v := iv (wr (w3 + 1))) (aBin_add _ _) ?_
      refine sim_get (Tab.enc h1 a_) (fun m24 a23 hi25 hm26 => ?_)
      refine sim_let (v := elp (Sl.enc a_) m24 1) ((Tab.enc h1 a_).fld _ _ _) ?_
      refine sim_let (v := elp (Sl.enc a_) m24 1) ((Tab.enc h1 a_).fld _ _ _) ?_
      refine sim_let (v := iv a23.box.x1) ((Tab.enc h1 a_).ld hm26 false 1 1) ?_
      refine sim_let (v := bv (!decide (a23.box.x1 = wr (w3 + 1)))) (aCmp_ne _ _) ?_
      refine sim_cond (fun c27 => ?_) (fun c27 => ?_)
      · exact sim_ret ⟨nofun, _, _, _, rfl, O2⟩
      · refine sim_let (v := iv (wr ((wr (w3 + 1)) + 1))) (aBin_add _ _) ?_
        refine sim_get (Tab.enc h1 a_) (fun m30 a29 hi31 hm32 => ?_)
        refine sim_let (v := elp (Sl.enc a_) m30 1) ((Tab.enc h1 a_).fld _ _ _) ?_
        refine sim_let (v := elp (Sl.enc a_) m30 2) ((Tab.enc h1 a_).fld _ _ _) ?_
        refine sim_let (v := iv a29.box.y1) ((Tab.enc h1 a_).ld hm32 false 1 2) ?_
        refine sim_let (v := bv (!decide (a29.box.y1 = wr ((wr (w3 + 1)) + 1)))) (aCmp_ne _ _) ?_
        refine sim_cond (fun c33 => ?_) (fun c33 => ?_)
        · exact sim_ret ⟨nofun, _, _, _, rfl, O2⟩
        · refine sim_let (v := iv (wr ((wr ((wr (w3 + 1)) + 1)) + 1))) (aBin_add _ _) ?_
          refine sim_get (Tab.enc h1 a_) (fun m36 a35 hi37 hm38 => ?_)
          refine sim_let (v := elp (Sl.enc a_) m36 1) ((Tab.enc h1 a_).fld _ _ _) ?_
          refine sim_let (v := elp (Sl.enc a_) m36 3) ((Tab.enc h1 a_).fld _ _ _) ?_
          refine sim_let (v := iv a35.box.x2) ((Tab.enc h1 a_).ld hm38 false 1 3) ?_
          refine sim_let (v := bv (!decide (a35.box.x2 = wr ((wr ((wr (w3 + 1)) + 1)) + 1)))) (aCmp_ne _ _) ?_
          refine sim_cond (fun c39 => ?_) (fun c39 => ?_)
          · exact sim_ret ⟨nofun, _, _, _, rfl, O2⟩
          · refine sim_let (v := iv (wr ((wr ((wr ((wr (w3 + 1)) + 1)) + 1)) + 1))) (aBin_add _ _) ?_
            refine sim_get (Tab.enc h1 a_) (fun m42 a41 hi43 hm44 => ?_)
            refine sim_let (v := elp (Sl.enc a_) m42 1) ((Tab.enc h1 a_).fld _ _ _) ?_
            refine sim_let (v := elp (Sl.enc a_) m42 4) ((Tab.enc h1 a_).fld _ _ _) ?_
            refine sim_let (v := iv a41.box.y2) ((Tab.enc h1 a_).ld hm44 false 1 4) ?_
            refine sim_let (v := bv (!decide (a41.box.y2 = wr ((wr ((wr ((wr (w3 + 1)) + 1)) + 1)) + 1)))) (aCmp_ne _ _) ?_
            refine sim_cond (fun c45 => ?_) (fun c45 => ?_)
            · exact sim_ret ⟨nofun, _, _, _, rfl, O2⟩
            · refine sim_let (v := iv (wr ((wr ((wr ((wr ((wr (w3 + 1)) + 1)) + 1)) + 1)) + 1))) (aBin_add _ _) ?_
              refine sim_let (v := iv (wr (w4 + 1))) (aBin_add _ _) ?_
              exact sim_ret ⟨rfl, rfl, O2⟩
  · exact sim_ret ⟨nofun, _, _, _, rfl, O2⟩
theorem ts_laws_heldSymbolS (env : Nat → Contract) (he_laws_markText : env n_laws_markText = .pure (C1 (fun c : ByteArray => enc c) t_laws_markText)) (a_ : Sl Symbol) (k_ : Int) : Sim (denFn Tryd.prog env n_laws_heldSymbolS [Sl.enc a_, iv k_] []) (t_laws_heldSymbolS a_ k_) fun c p => release p.2 depth p.1 = some ((fun c : Int => enc c) c) := by
  have O := Hold.nil []
  generalize hB : (⟨[], []⟩ : Base) = B at O
  clear hB
  rw [e_laws_heldSymbolS]
  unfold t_laws_heldSymbolS
  refine sim_bind ((tl0_laws_heldSymbolS env he_laws_markText a_) ⟨rfl, O⟩) (fun qq50 r hq => ?_)
  rcases qq50 with q7 | q13
  · obtain ⟨q9, z8, h5, rfl, O6⟩ := hq
    rw [e_lk0x0_laws_heldSymbolS]
    exact sim_ret (release_plain (by rfl) _)
  · obtain ⟨q12, q14, h10, rfl, O11⟩ := hq
    rw [e_lk0r_laws_heldSymbolS]
    exact sim_ret (release_plain (by rfl) _)
theorem tt_laws_heldSymbolS : PureOK Tryd.prog n_laws_heldSymbolS (C2 (fun c : Int => enc c) t_laws_heldSymbolS) := pureC2 (Econs tt_laws_markText E0) mixed hb_laws_heldSymbolS fun a_ k_ => ts_laws_heldSymbolS _ (by simp [envL]) a_ k_

/-- The source has been read up to `k` at most. -/
structure SK (s : l00Src) (k : Int) : Prop where
  lo : 0 ≤ s.pos
  hi : s.pos ≤ k

theorem SK.mono {s : l00Src} {k k' : Int} (h : SK s k) (hk : k ≤ k') : SK s k' := ⟨h.lo, by have := h.hi; omega⟩

theorem wr_succ {k n : Nat} (h : k < n) (hn : n ≤ 4294967296) : wr ((k : Int) + 1) = ((k + 1 : Nat) : Int) := by
  rw [wr_id (by omega) (by omega)]
  omega

theorem get_lt {A : Type} {l : List A} {k : Nat} {a : A} (h : l[k]? = some a) : k < l.length := (List.getElem?_eq_some_iff.1 h).1

/-- A point that is one; the points of a stroke that is one. -/
structure PtV (p : Point) : Prop where
  x0 : 0 ≤ p.x
  x1 : p.x ≤ 4095
  y0 : 0 ≤ p.y
  y1 : p.y ≤ 4095
  t0 : 0 ≤ p.t
  t1 : p.t ≤ 3600000

structure StV (l : List Point) : Prop where
  pts : ∀ p ∈ l, PtV p
  inc : ∀ (k : Nat) p q, l[k]? = some p → l[k + 1]? = some q → p.t < q.t
  n1 : 1 ≤ l.length
  n2 : l.length ≤ 60

/-- Points of a bounded size. -/
structure PtB (p : Point) : Prop where
  x0 : -10000000 ≤ p.x
  x1 : p.x ≤ 10000000
  y0 : -10000000 ≤ p.y
  y1 : p.y ≤ 10000000
  t0 : -10000000 ≤ p.t
  t1 : p.t ≤ 10000000

structure StB (s : Stroke) : Prop where
  n : (s.points.getD []).length ≤ 100
  pts : ∀ p ∈ s.points.getD [], PtB p

theorem PtV.b {p : Point} (h : PtV p) : PtB p := by
  obtain ⟨h1, h2, h3, h4, h5, h6⟩ := h
  exact ⟨by omega, by omega, by omega, by omega, by omega, by omega⟩

theorem StV.b {l : List Point} (h : StV l) : StB ⟨some l⟩ := ⟨Nat.le_trans h.n2 (by omega), fun p hp => (h.pts p hp).b⟩

/-- Ink that is one. -/
structure InkV (L : List Stroke) : Prop where
  st : ∀ s ∈ L, ∃ l, s = ⟨some l⟩ ∧ StV l
  inc : ∀ (k : Nat) l l', L[k]? = some ⟨some l⟩ → L[k + 1]? = some ⟨some l'⟩ → ∀ p ∈ l, ∀ q ∈ l', p.t < q.t
  n : L.length ≤ 16

theorem InkV.b {L : List Stroke} (h : InkV L) : ∀ x ∈ L, StB x := fun x hx => by
  obtain ⟨l, rfl, hl⟩ := h.st x hx
  exact hl.b

theorem firstL_so {A R : Type} {f : Nat → A → Option R} : ∀ {l : List A} {k : Nat} {r : R}, firstL f l k = some r → ∃ i a, f i a = some r
  | [], _, _, h => by cases h
  | b :: l, k, r, h => by
    unfold firstL at h
    cases e : f k b with
    | some r' => rw [e] at h; cases h; exact ⟨k, b, e⟩
    | none => rw [e] at h; exact firstL_so h

def pt (l : List Point) (i : Nat) : Point := l.getD i ⟨0, 0, 0⟩

/-- One pair lies ahead of another. -/
def Pre (p q i j : Nat) : Prop := (i = p + 1 ∧ j = q + 1) ∨ (i = p + 1 ∧ j = q) ∨ (i = p ∧ j = q + 1)

/-- A path's cost, from the first pair on. -/
inductive Pth (C : Nat → Nat → Int) (R : Nat → Nat → Prop) : Nat → Nat → Int → Prop
  | start : R 0 0 → Pth C R 0 0 (C 0 0)
  | step {p q i j : Nat} {c : Int} : Pth C R p q c → Pre p q i j → R i j → Pth C R i j (c + C i j)

theorem Pth.mono {C D : Nat → Nat → Int} {R S : Nat → Nat → Prop} {i j : Nat} {c : Int} (h : Pth C R i j c) (hR : ∀ p q, p ≤ i → q ≤ j → R p q → S p q) (hC : ∀ p q, p ≤ i → q ≤ j → C p q = D p q) : Pth D S i j c := by
  induction h with
  | start h =>
    rw [hC 0 0 (Nat.le_refl _) (Nat.le_refl _)]
    exact .start (hR 0 0 (Nat.le_refl _) (Nat.le_refl _) h)
  | @step p q i j c h1 h2 h3 ih =>
    have hle : p ≤ i ∧ q ≤ j := by rcases h2 with h | h | h <;> omega
    rw [hC i j (Nat.le_refl _) (Nat.le_refl _)]
    exact .step (ih (fun a b h4 h5 => hR a b (by omega) (by omega)) (fun a b h4 h5 => hC a b (by omega) (by omega))) h2 (hR i j (Nat.le_refl _) (Nat.le_refl _) h3)

/-- A table's entry. -/
def Val (T : List (Sl Int)) (p q : Nat) (v : Int) : Prop := ∃ row, T[p]? = some (some row) ∧ row[q]? = some v

theorem Val.set {T : List (Sl Int)} {i j p q : Nat} {row : List Int} {v w : Int} (hr : T[i]? = some (some row)) (hj : j < row.length) :
    Val (T.set i (some (row.set j w))) p q v ↔ (p = i ∧ q = j ∧ v = w) ∨ (¬ (p = i ∧ q = j) ∧ Val T p q v) := by
  have hi := get_lt hr
  unfold Val
  constructor
  · rintro ⟨r, h1, h2⟩
    by_cases c : i = p
    · subst c
      rw [List.getElem?_set_self hi] at h1
      cases h1
      by_cases d : j = q
      · subst d
        rw [List.getElem?_set_self hj] at h2
        cases h2
        exact .inl ⟨rfl, rfl, rfl⟩
      · rw [List.getElem?_set_ne d] at h2
        exact .inr ⟨fun h => d h.2.symm, row, hr, h2⟩
    · rw [List.getElem?_set_ne c] at h1
      exact .inr ⟨fun h => c h.1.symm, r, h1, h2⟩
  · rintro (⟨rfl, rfl, rfl⟩ | ⟨hne, r, h1, h2⟩)
    · exact ⟨_, List.getElem?_set_self hi, List.getElem?_set_self hj⟩
    · by_cases c : i = p
      · subst c
        rw [hr] at h1
        cases h1
        have d : j ≠ q := fun h => hne ⟨rfl, h.symm⟩
        exact ⟨_, List.getElem?_set_self hi, by rw [List.getElem?_set_ne d]; exact h2⟩
      · exact ⟨r, by rw [List.getElem?_set_ne c]; exact h1, h2⟩

def PVal (T : List (Sl Part)) (p q : Nat) (v : Part) : Prop := ∃ row, T[p]? = some (some row) ∧ row[q]? = some v

theorem PVal.set {T : List (Sl Part)} {i j p q : Nat} {row : List Part} {v w : Part} (hr : T[i]? = some (some row)) (hj : j < row.length) :
    PVal (T.set i (some (row.set j w))) p q v ↔ (p = i ∧ q = j ∧ v = w) ∨ (¬ (p = i ∧ q = j) ∧ PVal T p q v) := by
  have hi := get_lt hr
  unfold PVal
  constructor
  · rintro ⟨r, h1, h2⟩
    by_cases c : i = p
    · subst c
      rw [List.getElem?_set_self hi] at h1
      cases h1
      by_cases d : j = q
      · subst d
        rw [List.getElem?_set_self hj] at h2
        cases h2
        exact .inl ⟨rfl, rfl, rfl⟩
      · rw [List.getElem?_set_ne d] at h2
        exact .inr ⟨fun h => d h.2.symm, row, hr, h2⟩
    · rw [List.getElem?_set_ne c] at h1
      exact .inr ⟨fun h => c h.1.symm, r, h1, h2⟩
  · rintro (⟨rfl, rfl, rfl⟩ | ⟨hne, r, h1, h2⟩)
    · exact ⟨_, List.getElem?_set_self hi, List.getElem?_set_self hj⟩
    · by_cases c : i = p
      · subst c
        rw [hr] at h1
        cases h1
        have d : j ≠ q := fun h => hne ⟨rfl, h.symm⟩
        exact ⟨_, List.getElem?_set_self hi, by rw [List.getElem?_set_ne d]; exact h2⟩
      · exact ⟨r, by rw [List.getElem?_set_ne c]; exact h1, h2⟩

def d2 (a b : Point) : Int := (a.x - b.x) * (a.x - b.x) + (a.y - b.y) * (a.y - b.y)

def pbox (p : Point) : Box := ⟨p.x, p.y, p.x, p.y⟩

/-- One box is in another one. -/
structure InB (a b : Box) : Prop where
  x1 : b.x1 ≤ a.x1
  y1 : b.y1 ≤ a.y1
  x2 : a.x2 ≤ b.x2
  y2 : a.y2 ≤ b.y2

theorem InB.refl (a : Box) : InB a a := ⟨Int.le_refl _, Int.le_refl _, Int.le_refl _, Int.le_refl _⟩

theorem InB.trans {a b c : Box} (h : InB a b) (g : InB b c) : InB a c := ⟨Int.le_trans g.x1 h.x1, Int.le_trans g.y1 h.y1, Int.le_trans h.x2 g.x2, Int.le_trans h.y2 g.y2⟩

theorem PtV.box {p : Point} (h : PtV p) : InB (pbox p) ⟨0, 0, 4095, 4095⟩ := ⟨h.x0, h.y0, h.x1, h.y1⟩

def side (b : Box) : Int := max (max (b.x2 - b.x1) (b.y2 - b.y1)) 1

theorem eqSy_ok {a b : Sl Symbol} (h : a.getD [] = b.getD []) (hl : (a.getD []).length ≤ 4294967296) : t_laws_eqSymbolS a b = some true := by
  have lp := loopT_first (step := s0_laws_eqSymbolS a b) (a.getD []) (fun _ _ => (none : Option Bool)) (.inl ()) .inr
    (fun k x hx => by
      have hk := get_lt hx
      have c : (k : Int) < ((a.getD []).length : Nat) := by omega
      unfold s0_laws_eqSymbolS
      simp only [c, decide_true, cond_true, getI_nat hx, ← h, obind_sm, Bool.not_true, cond_false, wr_succ hk hl])
    (by
      unfold s0_laws_eqSymbolS
      simp only [Int.lt_irrefl, decide_false, cond_false])
  rw [firstL_none (fun _ _ _ => rfl)] at lp
  unfold t_laws_eqSymbolS
  rw [lp, ← h]
  simp

def fSy (_ : Nat) (b : Symbol) : Option Bool := bif !okSym b then some false else none

/-- The symbols are valid. -/
def okSys (l : List Symbol) : Bool := match firstL fSy l 0 with
  | none => decide (l.length ≤ 8)
  | some r => r

theorem l20Ok_ok (s : Sl Symbol) (hl : (s.getD []).length ≤ 4294967296) : t_spec_l20Ok s = some (okSys (s.getD [])) := by
  have lp := loopT_first (step := s0_spec_l20Ok s) (s.getD []) fSy (.inl ()) .inr
    (fun k x hx => by
      have hk := get_lt hx
      have c : (k : Int) < (((s.getD []).length : Nat) : Int) := by omega
      unfold s0_spec_l20Ok fSy okSym
      simp only [c, decide_true, cond_true, getI_nat hx, obind_sm, wr_succ hk hl]
      cases isLabel x.label <;> cases validBox x.box <;> rfl)
    (by
      unfold s0_spec_l20Ok
      simp only [Int.lt_irrefl, decide_false, cond_false])
  have d : decide ((((s.getD []).length : Nat) : Int) ≤ 8) = decide ((s.getD []).length ≤ 8) := decide_eq_decide.2 (by omega)
  unfold t_spec_l20Ok okSys
  rw [lp]
  cases firstL fSy (s.getD []) 0 with
  | none => simp only [obind_sm, d]
  | some r => rfl

theorem fSy_some {l : List Symbol} {r : Bool} {k : Nat} (h : firstL fSy l k = some r) : r = false := by
  obtain ⟨i, a, hf⟩ := firstL_so h
  unfold fSy at hf
  cases h2 : okSym a <;> rw [h2] at hf <;> cases hf
  rfl

theorem validSys_ok (s : Sl Symbol) (hl : (s.getD []).length ≤ 4294967296) : t_impl_ValidSymbols s = some (okSys (s.getD [])) := by
  have lp := loopT_first (step := s0_slices_IndexFunc_impl_Symbol_impl_Symbol (fun a => some ((fun b : Symbol => !okSym b) a)) s) (s.getD []) (fun k a => bif !okSym a then some (k : Int) else none) (.inl ()) .inr
    (fun k a ha => by
      have hk := get_lt ha
      have c : (k : Int) < (((s.getD []).length : Nat) : Int) := by omega
      unfold s0_slices_IndexFunc_impl_Symbol_impl_Symbol
      simp only [c, decide_true, cond_true, getI_nat ha, obind_sm, wr_succ hk hl]
      cases okSym a <;> rfl)
    (by
      unfold s0_slices_IndexFunc_impl_Symbol_impl_Symbol
      simp only [Int.lt_irrefl, decide_false, cond_false])
  have key : ∀ (l : List Symbol) (k : Nat), (firstL (fun (k : Nat) a => bif !okSym a then some (k : Int) else none) l k = none ∧ firstL fSy l k = none) ∨ ∃ r, firstL (fun (k : Nat) a => bif !okSym a then some (k : Int) else none) l k = some r ∧ 0 ≤ r ∧ firstL fSy l k = some false := by
    intro l
    induction l with
    | nil => intro k; exact .inl ⟨rfl, rfl⟩
    | cons a l ih =>
      intro k
      unfold firstL fSy
      cases e : okSym a with
      | true =>
        simp only [Bool.not_true, cond_false]
        exact ih (k + 1)
      | false => exact .inr ⟨(k : Int), rfl, by omega, rfl⟩
  have cf : t_slices_ContainsFunc_impl_Symbol_impl_Symbol (fun a => some ((fun s : Symbol => !okSym s) a)) s = some (firstL fSy (s.getD []) 0).isSome := by
    unfold t_slices_ContainsFunc_impl_Symbol_impl_Symbol t_slices_IndexFunc_impl_Symbol_impl_Symbol
    rw [lp]
    rcases key (s.getD []) 0 with ⟨h1, h2⟩ | ⟨r, h1, h2, h3⟩
    · rw [h1, h2]
      simp
    · rw [h1, h3]
      simp [h2]
  have d : decide ((((s.getD []).length : Nat) : Int) ≤ 8) = decide ((s.getD []).length ≤ 8) := decide_eq_decide.2 (by omega)
  unfold t_impl_ValidSymbols okSys
  rw [cf, d]
  cases h : firstL fSy (s.getD []) 0 with
  | none => cases decide ((s.getD []).length ≤ 8) <;> rfl
  | some r =>
    have := fSy_some h
    subst this
    cases decide ((s.getD []).length ≤ 8) <;> rfl

theorem okSys_len {l : List Symbol} (h : okSys l = true) : l.length ≤ 8 := by
  unfold okSys at h
  cases e : firstL fSy l 0 with
  | some r =>
    rw [e] at h
    simp only at h
    rw [fSy_some e] at h
    cases h
  | none =>
    rw [e] at h
    exact of_decide_eq_true h

/-- The digits of a number; none for 0. -/
def digs (m : Nat) : List UInt8 := if m = 0 then [] else Lib.decDigits m

theorem digs_step {m : Nat} (h : 0 < m) : digs m = digs (m / 10) ++ [UInt8.ofNat (48 + m % 10)] := by
  unfold digs
  rw [if_neg (by omega)]
  by_cases c : m < 10
  · rw [Lib.decDigits, dif_pos c, if_pos (by omega), Nat.mod_eq_of_lt c]
    rfl
  · rw [Lib.decDigits, dif_neg c, if_neg (by omega)]

theorem byteI_small {n : Nat} (h : n < 256) : byteI (n : Int) = UInt8.ofNat n := by
  have h1 : IntKind.u8.wrap (n : Int) = (n : Int) := by
    simp only [IntKind.wrap, IntKind.bits, IntKind.signed]
    simp only [Bool.false_and, Bool.false_eq_true, if_false]
    omega
  unfold byteI
  rw [h1]
  simp [Nat.toUInt8]

theorem decLoop : ∀ (f : Nat) (k : Int) (w : Sl UInt8), k.natAbs < 10 ^ f → -9223372036854775808 ≤ k → k ≤ 9223372036854775807 → (w.getD []).length + f ≤ 1000 → ∃ q, loopT s0_spec_l01Dec (w, k) = some q ∧ q.getD [] = digs k.natAbs ++ w.getD [] := by
  intro f
  induction f with
  | zero =>
    intro k w h _ _ _
    have hk : k = 0 := by simp at h; omega
    subst hk
    exact ⟨w, loopT_end (by unfold s0_spec_l01Dec; simp), by simp [digs]⟩
  | succ f ih =>
    intro k w h h1 h2 h3
    by_cases hk : k = 0
    · subst hk
      exact ⟨w, loopT_end (by unfold s0_spec_l01Dec; simp), by simp [digs]⟩
    · have hp : 10 ^ (f + 1) = 10 * 10 ^ f := by rw [Nat.pow_succ, Nat.mul_comm]
      obtain ⟨m, hm⟩ : ∃ m, k.natAbs = m := ⟨_, rfl⟩
      have m0 : 0 < m := by omega
      have ds := digs_step m0
      have bs := byteI_small (n := 48 + m % 10) (by omega)
      have hb : (((48 + m % 10 : Nat) : Int)) = 48 + ((m % 10 : Nat) : Int) := by omega
      have ap : appO (some ([UInt8.ofNat (48 + m % 10)] : List UInt8)) (w.getD []) = some (appS (some [UInt8.ofNat (48 + m % 10)]) (w.getD [])) := appO_some (by simp; omega)
      have d0 : decide (k = 0) = false := decide_eq_false hk
      have go : ∀ k' : Int, k'.natAbs = m / 10 → -9223372036854775808 ≤ k' → k' ≤ 9223372036854775807 → s0_spec_l01Dec (w, k) = some (.inl (appS (some [UInt8.ofNat (48 + m % 10)]) (w.getD []), k')) → ∃ q, loopT s0_spec_l01Dec (w, k) = some q ∧ q.getD [] = digs k.natAbs ++ w.getD [] := by
        intro k' e1 e2 e3 e4
        rw [loopT_next e4]
        obtain ⟨q, q1, q2⟩ := ih k' (appS (some [UInt8.ofNat (48 + m % 10)]) (w.getD [])) (by omega) e2 e3 (by rw [appS_getD]; simp; omega)
        refine ⟨q, q1, ?_⟩
        rw [q2, appS_getD, e1, hm, ds]
        simp
      rcases Int.natAbs_eq k with e | e
      · rw [hm] at e
        have t1 : Int.tmod k 10 = ((m % 10 : Nat) : Int) := by rw [e]; exact (Int.ofNat_tmod m 10).symm
        have t2 : Int.tdiv k 10 = ((m / 10 : Nat) : Int) := by rw [e]; exact (Int.ofNat_tdiv m 10).symm
        refine go ((m / 10 : Nat) : Int) (by omega) (by omega) (by omega) ?_
        have c1 : decide (((m % 10 : Nat) : Int) < 0) = false := decide_eq_false (by omega)
        unfold s0_spec_l01Dec
        simp only [d0, Bool.not_false, cond_true, t1, t2, c1, cond_false]
        rw [wr_id (by omega) (by omega), wr_id (by omega) (by omega), ← hb, bs, ap]
        rfl
      · rw [hm] at e
        have t1 : Int.tmod k 10 = -((m % 10 : Nat) : Int) := by rw [e, Int.neg_tmod]; exact congrArg _ (Int.ofNat_tmod m 10).symm
        have t2 : Int.tdiv k 10 = -((m / 10 : Nat) : Int) := by rw [e, Int.neg_tdiv]; exact congrArg _ (Int.ofNat_tdiv m 10).symm
        refine go (-((m / 10 : Nat) : Int)) (by omega) (by omega) (by omega) ?_
        unfold s0_spec_l01Dec
        simp only [d0, Bool.not_false, cond_true, t1, t2]
        have wq : wr (-((m / 10 : Nat) : Int)) = -((m / 10 : Nat) : Int) := wr_id (by omega) (by omega)
        rw [wq]
        by_cases c : m % 10 = 0
        · have c1 : decide (-((m % 10 : Nat) : Int) < 0) = false := decide_eq_false (by omega)
          have w1 : wr (48 + -((m % 10 : Nat) : Int)) = ((48 + m % 10 : Nat) : Int) := by rw [wr_id (by omega) (by omega)]; omega
          rw [c1, cond_false, w1, bs, ap]
          rfl
        · have c1 : decide (-((m % 10 : Nat) : Int) < 0) = true := decide_eq_true (by omega)
          have w0 : wr (0 - -((m % 10 : Nat) : Int)) = ((m % 10 : Nat) : Int) := by rw [wr_id (by omega) (by omega)]; omega
          have w1 : wr (48 + ((m % 10 : Nat) : Int)) = ((48 + m % 10 : Nat) : Int) := by rw [wr_id (by omega) (by omega)]; omega
          rw [c1, cond_true, w0, w1, bs, ap]
          rfl

theorem strL_app (a b : List UInt8) : strL a ++ strL b = strL (a ++ b) := by
  unfold strL
  apply ByteArray.ext
  simp

theorem strL_size (a : List UInt8) : (strL a).size = a.length := by
  unfold strL
  rfl

theorem bl_strL (a : List UInt8) : bl (strL a) = a := by simp [bl, strL]

theorem strL_bl (s : ByteArray) : strL (bl s) = s := by
  unfold strL bl
  rfl

theorem catO_some {a b : ByteArray} (h : a.size + b.size ≤ 4294967296) : catO a b = some (a ++ b) := by
  unfold catO
  rw [if_pos (by omega)]

theorem digs_len : ∀ (f m : Nat), m < 10 ^ f → (digs m).length ≤ f
  | 0, m, h => by
    have : m = 0 := by simp at h; omega
    subst this
    simp [digs]
  | f + 1, m, h => by
    have hp : 10 ^ (f + 1) = 10 * 10 ^ f := by rw [Nat.pow_succ, Nat.mul_comm]
    by_cases m0 : m = 0
    · subst m0; simp [digs]
    · have := digs_len f (m / 10) (by omega)
      rw [digs_step (by omega)]
      simp
      omega

theorem digs_pos {m : Nat} (h : 0 < m) : 0 < (digs m).length := by
  rw [digs_step h]
  simp

theorem l01Dec_ok {n : Int} (h0 : -9223372036854775808 ≤ n) (h1 : n ≤ 9223372036854775807) : t_spec_l01Dec n = some (itS n) ∧ (itS n).size ≤ 20 := by
  obtain ⟨q, q1, q2⟩ := decLoop 19 n (some []) (by omega) h0 h1 (by simp)
  rw [Option.getD_some, List.append_nil] at q2
  have dl := digs_len 19 n.natAbs (by omega)
  unfold t_spec_l01Dec
  rw [q1, obind_sm, q2]
  by_cases c : n = 0
  · subst c
    refine ⟨?_, ?_⟩
    · have e : digs (Int.natAbs 0) = [] := rfl
      rw [e]
      have e2 : itS 0 = (⟨#[48]⟩ : ByteArray) := by
        unfold itS Lib.itoa
        rw [if_neg (by decide), Lib.decDigits, dif_pos (by decide)]
        rfl
      rw [e2]
      rfl
    · have e2 : itS 0 = (⟨#[48]⟩ : ByteArray) := by
        unfold itS Lib.itoa
        rw [if_neg (by decide), Lib.decDigits, dif_pos (by decide)]
        rfl
      rw [e2]
      decide
  · have p := digs_pos (m := n.natAbs) (by omega)
    have d1 : decide ((((digs n.natAbs).length : Nat) : Int) = 0) = false := decide_eq_false (by omega)
    have dd : digs n.natAbs = Lib.decDigits n.natAbs := by unfold digs; rw [if_neg (by omega)]
    rw [d1, cond_false]
    by_cases c2 : n < 0
    · have e2 : itS n = strL (45 :: digs n.natAbs) := by
        unfold itS Lib.itoa
        rw [if_pos c2, dd]
      have e3 : (⟨#[45]⟩ : ByteArray) = strL [45] := rfl
      rw [decide_eq_true c2, cond_true, e3, catO_some (by rw [strL_size, strL_size]; simp; omega), strL_app, obind_sm, e2]
      exact ⟨rfl, by rw [strL_size]; simp; omega⟩
    · have e2 : itS n = strL (digs n.natAbs) := by
        unfold itS Lib.itoa
        rw [if_neg c2, dd]
        have : n.toNat = n.natAbs := by omega
        rw [this]
      rw [decide_eq_false c2, cond_false, e2]
      exact ⟨rfl, by rw [strL_size]; omega⟩

theorem decimal_ok {n : Int} (h0 : -9223372036854775808 ≤ n) (h1 : n ≤ 9223372036854775807) : t_impl_Decimal n = some (itS n) := by
  unfold t_impl_Decimal fmtO
  rw [decide_eq_true h0, decide_eq_true h1]
  rfl

theorem getB_bl {s : ByteArray} {k : Nat} {b : UInt8} (h : (bl s)[k]? = some b) : getB s (k : Int) = some b := getI_nat h

/-! ### The cost of a text in a lattice: the least cost of a path -/
inductive Wy (E : List Edg) (lab : Nat → ByteArray) : Nat → Nat → Int → Prop
  | start : Wy E lab 0 0 0
  | step {k u v : Nat} {c : Int} {i : Nat} {e : Edg} : Wy E lab k u c → E[i]? = some e → e.frm = (u : Int) → e.upto = (v : Int) → e.label = lab k → Wy E lab (k + 1) v (c + e.cost)

theorem set_upd {L : List Int} {v : Nat} {x y : Int} (h : L[v]? = some x) (i : Nat) : (L.set v y)[i]? = if i = v then some y else L[i]? := by
  by_cases e : i = v
  · subst e
    rw [if_pos rfl, List.getElem?_set_self (get_lt h)]
  · rw [if_neg e, List.getElem?_set_ne (fun k => e k.symm)]

/-- .. what the first j edges tell of the next row. -/
def Nxt (E : List Edg) (lab : Nat → ByteArray) (k j : Nat) (v : Nat) (c : Int) : Prop := ∃ i e u c', i < j ∧ E[i]? = some e ∧ e.frm = ((u : Nat) : Int) ∧ e.upto = (v : Int) ∧ e.label = lab k ∧ Wy E lab k u c' ∧ c = c' + e.cost

theorem Nxt.all {E : List Edg} {lab : Nat → ByteArray} {k v : Nat} {c : Int} : Nxt E lab k E.length v c ↔ Wy E lab (k + 1) v c := by
  constructor
  · rintro ⟨i, e, u, c', _, he, hf, hu, hl, hw, rfl⟩
    exact .step hw he hf hu hl
  · intro h
    cases h with
    | step hw he hf hu hl => exact ⟨_, _, _, _, get_lt he, he, hf, hu, hl, hw, rfl⟩

/-- A cell's cost is at most c. -/
def Cap (n : Nat) (L : List Int) (v k : Nat) (c : Int) : Prop := ∃ x, L[v * (n + 1) + k]? = some x ∧ 0 ≤ x ∧ x ≤ c

theorem Cap.mono {n : Nat} {L : List Int} {v k m : Nat} {c x y : Int} (h : Cap n L v k c) (hx : L[m]? = some x) (hy : x < 0 ∨ y < x) (h0 : 0 ≤ y) : Cap n (L.set m y) v k c := by
  obtain ⟨z, h1, h2, h3⟩ := h
  unfold Cap
  rw [set_upd hx]
  by_cases e : v * (n + 1) + k = m
  · rw [if_pos e]
    rw [e, hx] at h1
    cases h1
    exact ⟨y, rfl, h0, by omega⟩
  · rw [if_neg e]
    exact ⟨z, h1, h2, h3⟩

/-! ### Sets of symbols as numbers; sums -/
theorem wr_shift (x q : Int) : wr (x + 18446744073709551616 * q) = wr x := by
  simp only [wr, IntKind.wrap, IntKind.bits, IntKind.signed]
  first | omega | (simp; done)

theorem wr_mod (x : Int) : ∃ q, wr x = x + 18446744073709551616 * q := by
  have h : ∃ q, wr x = x - 18446744073709551616 * q := by
    simp only [wr, IntKind.wrap, IntKind.bits, IntKind.signed]
    by_cases h : x % 18446744073709551616 ≥ 9223372036854775808
    · exact ⟨x / 18446744073709551616 + 1, by simp [h]; omega⟩
    · exact ⟨x / 18446744073709551616, by simp [h]; omega⟩
  obtain ⟨q, hq⟩ := h
  exact ⟨-q, by rw [hq]; omega⟩

theorem wr_add_l (x y : Int) : wr (wr x + y) = wr (x + y) := by
  obtain ⟨q, h⟩ := wr_mod x
  rw [h, show x + 18446744073709551616 * q + y = x + y + 18446744073709551616 * q by omega, wr_shift]

def upd (base : Nat → Int) (S : Nat) (x : Int) (v : Nat) : Int := if v = S then x else base v

theorem upd_self (base : Nat → Int) (S : Nat) (x : Int) : upd base S x S = x := if_pos rfl

theorem upd_ne {base : Nat → Int} {S v : Nat} (x : Int) (h : v ≠ S) : upd base S x v = base v := if_neg h

structure PI (l : Sl Symbol) (n : Nat) (bx : Nat → Box) (c : Nat → Int) (p : Parser) : Prop where
  list : p.list = l
  boxes : ∀ v, v < n → (p.boxes.getD [])[v]? = some (bx v)
  best : (p.best.getD []).length = n
  clen : (p.count.getD []).length = n
  count : ∀ v, v < n → (p.count.getD [])[v]? = some (c v)

structure CI (l : Sl Symbol) (n : Nat) (bx : Nat → Box) (c : Nat → Int) (p : Chart21) : Prop where
  list : p.list = l
  len : (p.cells.getD []).length = n
  cells : ∀ v, v < n → ∃ x, (p.cells.getD [])[v]? = some x ∧ x.box = bx v ∧ x.ways = c v

theorem setS_look {A : Type} {s : Sl A} {v : Nat} {x y : A} (h : (s.getD [])[v]? = some x) (i : Nat) : ((setS s (v : Int) y).getD [])[i]? = if i = v then some y else (s.getD [])[i]? := by
  cases s with
  | none => simp at h
  | some l =>
    show (l.set ((v : Int).toNat) y)[i]? = if i = v then some y else l[i]?
    rw [Int.toNat_natCast]
    have h' : l[v]? = some x := h
    by_cases e : i = v
    · subst e
      rw [if_pos rfl, List.getElem?_set_self (get_lt h')]
    · rw [if_neg e, List.getElem?_set_ne (fun k => e k.symm)]

theorem PI.add {l : Sl Symbol} {n : Nat} {bx : Nat → Box} {base : Nat → Int} {S : Nat} {X Y : Int} {p : Parser} (h : PI l n bx (upd base S (wr X)) p) (hS : S < n) (q : Sl Choice) (hq : (q.getD []).length = n) : PI l n bx (upd base S (wr (X + Y))) ⟨p.list, p.boxes, q, setS p.count (S : Int) (wr (wr X + Y))⟩ := by
  have hs := h.count S hS
  refine ⟨h.list, h.boxes, hq, by show ((setS p.count (S : Int) _).getD []).length = n; rw [setS_len]; exact h.clen, fun v hv => ?_⟩
  show ((setS p.count (S : Int) _).getD [])[v]? = _
  rw [setS_look hs]
  by_cases e : v = S
  · subst e
    rw [if_pos rfl, upd_self, wr_add_l]
  · rw [if_neg e, upd_ne _ e, h.count v hv, upd_ne _ e]

/-! ### One way, the reference's side; all divisions of a set, on both sides -/
theorem CI.add {l : Sl Symbol} {n : Nat} {bx : Nat → Box} {base : Nat → Int} {S : Nat} {X Y Z : Int} {p : Chart21} (h : CI l n bx (upd base S (wr X)) p) (hS : S < n) (y : Cell21) (hb : y.box = bx S) (hw : y.ways = wr (wr X + Y)) (hZ : wr (X + Y) = wr (X + Z)) : CI l n bx (upd base S (wr (X + Z))) ⟨p.list, setS p.cells (S : Int) y⟩ := by
  obtain ⟨x, hx, _⟩ := h.cells S hS
  refine ⟨h.list, by show ((setS p.cells (S : Int) _).getD []).length = n; rw [setS_len]; exact h.len, fun v hv => ?_⟩
  show ∃ x, ((setS p.cells (S : Int) _).getD [])[v]? = some x ∧ _
  rw [setS_look hx]
  by_cases e : v = S
  · subst e
    rw [if_pos rfl]
    exact ⟨y, rfl, hb, by rw [upd_self, hw, wr_add_l, hZ]⟩
  · rw [if_neg e]
    obtain ⟨z, h1, h2, h3⟩ := h.cells v hv
    exact ⟨z, h1, h2, by rw [h3, upd_ne _ e, upd_ne _ e]⟩

/-! ### The boxes of sets; one set whole -/
def shrQ (S i : Nat) : Int := Int.fdiv (S : Int) (2 ^ (min (i : Int).toNat 64))

def outQ (S i : Nat) : Bool := decide (andI (shrQ S i) 1 = 0)

/-! ### The best way (ParseSymbols) -/
structure Way where
  kind : Int
  sign : Int
  a : Nat
  b : Nat
  cost : Int
  ways : Int
  deriving DecidableEq

abbrev posLt (x y : Way) : Prop := x.kind < y.kind ∨ (x.kind = y.kind ∧ (x.sign < y.sign ∨ (x.sign = y.sign ∧ x.a < y.a)))

abbrev lexLt (x y : Way) : Prop := x.cost < y.cost ∨ (x.cost = y.cost ∧ posLt x y)

def stepI (o : Option Way) (t : Way) : Option Way := if t.ways = 0 then o else match o with
  | none => some t
  | some x => if lexLt t x then some t else some x

def chOf (t : Way) : Choice := ⟨t.kind, t.sign, (t.a : Int), (t.b : Int), t.cost⟩

structure PB (l : Sl Symbol) (n : Nat) (bx : Nat → Box) (base : Nat → Int) (bc : Nat → Choice) (S : Nat) (X : Int) (o : Option Way) (p : Parser) : Prop where
  pi : PI l n bx (upd base S (wr X)) p
  bst : ∀ v, v < n → v ≠ S → (p.best.getD [])[v]? = some (bc v)
  own : ∀ t, o = some t → (p.best.getD [])[S]? = some (chOf t)
  zero : o = none ↔ X = 0
  pos : 0 ≤ X

theorem PB.take {l : Sl Symbol} {n : Nat} {bx : Nat → Box} {base : Nat → Int} {bc : Nat → Choice} {S : Nat} {X : Int} {o : Option Way} {p : Parser} (h : PB l n bx base bc S X o p) (hS : S < n) {t : Way} (hp : 0 < t.ways) (hs : stepI o t = some t) : PB l n bx base bc S (X + t.ways) (stepI o t) ⟨p.list, p.boxes, setS p.best (S : Int) (chOf t), setS p.count (S : Int) (wr (wr X + t.ways))⟩ := by
  obtain ⟨y, hy⟩ : ∃ y, (p.best.getD [])[S]? = some y := ⟨_, List.getElem?_eq_getElem (by have := h.pi.best; omega)⟩
  have pos := h.pos
  refine ⟨h.pi.add hS _ (by rw [setS_len]; exact h.pi.best), fun v hv hn => ?_, fun u hu => ?_, ?_, by omega⟩
  · show ((setS p.best (S : Int) _).getD [])[v]? = _
    rw [setS_look hy, if_neg hn]
    exact h.bst v hv hn
  · show ((setS p.best (S : Int) _).getD [])[S]? = _
    rw [hs] at hu
    cases hu
    rw [setS_look hy, if_pos rfl]
  · rw [hs]
    exact ⟨fun e => (by cases e), fun e => by omega⟩

/-! ### One set whole, with its best way, on both sides -/
def lastIx (S : Nat) : Nat → Nat
  | 0 => 0
  | i + 1 => bif outQ S i then lastIx S i else i

def Lnk (N : Nat) (base : Nat → Int) (v : Nat) (x y : Choice) : Prop :=
  (v &&& (v - 1) = 0 ∧ y = ⟨0, (lastIx v N : Int), 0, 0, 0⟩) ∨ (v &&& (v - 1) ≠ 0 ∧ ∃ t : Way, x = chOf t ∧ y = chOf t ∧ t.kind ≠ 0 ∧ 0 < t.a ∧ t.a < v ∧ t.b < v ∧ base t.a ≠ 0 ∧ (t.b = 0 ∨ base t.b ≠ 0) ∧ t.a + t.b ≤ v)

theorem Lnk.mono {N v S : Nat} {base : Nat → Int} {x y : Choice} {u : Int} (h : Lnk N base v x y) (hv : v ≤ S) (hu : base S = 0) : Lnk N (upd base S u) v x y := by
  rcases h with h | ⟨h1, t, h2, h3, h4, h5, h6, h7, h8, h9, h10⟩
  · exact .inl h
  · refine .inr ⟨h1, t, h2, h3, h4, h5, h6, h7, ?_, ?_, h10⟩
    · rw [upd_ne _ (by omega)]
      exact h8
    · rw [upd_ne _ (by omega)]
      exact h9

/-! ### Texts of marks -/
theorem mark_dig : ∀ r : Fin 10, byteI (wr (48 + ((r.val : Nat) : Int))) = (48 + r.val).toUInt8 := by decide +kernel

theorem markLoop : ∀ (k : Nat) (out : ByteArray), k + out.size ≤ 1000000000 → loopT s0_laws_markText ((k : Int), out) = some (digT k out) := by
  intro k out
  induction k, out using digT.induct with
  | case1 out =>
    intro _
    rw [digT, dif_pos rfl]
    refine loopT_end ?_
    unfold s0_laws_markText
    rfl
  | case2 k out h ih =>
    intro hs
    rw [digT, dif_neg h]
    have sz : ((⟨#[(48 + k % 10).toUInt8]⟩ : ByteArray) ++ out).size = 1 + out.size := size_one _ _
    have c : decide ((0 : Int) < (k : Int)) = true := decide_eq_true (by omega)
    have m1 : Int.tmod (k : Int) 10 = ((k % 10 : Nat) : Int) := rfl
    have m2 : Int.tdiv (k : Int) 10 = ((k / 10 : Nat) : Int) := rfl
    have w : wr ((k / 10 : Nat) : Int) = ((k / 10 : Nat) : Int) := wr_id (by omega) (by omega)
    have b : byteI (wr (48 + ((k % 10 : Nat) : Int))) = (48 + k % 10).toUInt8 := mark_dig ⟨k % 10, by omega⟩
    have ct : catO (strL ((some ([(48 + k % 10).toUInt8] : List UInt8)).getD [])) out = some ((⟨#[(48 + k % 10).toUInt8]⟩ : ByteArray) ++ out) := by
      unfold catO
      rw [if_pos (by
        show (((⟨#[(48 + k % 10).toUInt8]⟩ : ByteArray).size + out.size : Nat) : Int) ≤ _
        have : (⟨#[(48 + k % 10).toUInt8]⟩ : ByteArray).size = 1 := rfl
        omega)]
      rfl
    rw [loopT_next (s' := (((k / 10 : Nat) : Int), (⟨#[(48 + k % 10).toUInt8]⟩ : ByteArray) ++ out))]
    · exact ih (by rw [sz]; omega)
    · unfold s0_laws_markText
      simp only [c, cond_true, m1, m2, w, b, ct, obind_sm]

theorem markText_ok {k : Nat} (h : k ≤ 100000000) : t_laws_markText (k : Int) = some (markT k) := by
  unfold t_laws_markText markT
  by_cases h0 : k = 0
  · subst h0
    rfl
  · have c : decide ((k : Int) ≤ 0) = false := decide_eq_false (by omega)
    have d : decide (k = 0) = false := decide_eq_false h0
    have sz := digT_size k ⟨#[]⟩
    have e : (⟨#[]⟩ : ByteArray).size = 0 := rfl
    have ct : catO (⟨#[109]⟩ : ByteArray) (digT k ⟨#[]⟩) = some ((⟨#[109]⟩ : ByteArray) ++ digT k ⟨#[]⟩) := by
      unfold catO
      rw [if_pos (by
        have : (⟨#[109]⟩ : ByteArray).size = 1 := rfl
        omega)]
    rw [c, d, cond_false, cond_false, markLoop k ⟨#[]⟩ (by omega), obind_sm, ct, obind_sm]

/-! ### The sentence with the least cost, by itself -/
/-- Words that may stand at a place, each with its own cost. -/
abbrev CandL := List (ByteArray × Int)

/-- Words one behind the other, with their cost. -/
inductive SPth (pc : ByteArray → ByteArray → Int) : List CandL → ByteArray → List ByteArray → Int → Prop
  | nil {a : ByteArray} : SPth pc [] a [] 0
  | cons {C : CandL} {Cs : List CandL} {a w : ByteArray} {c r : Int} {ws : List ByteArray} (hw : (w, c) ∈ C) (h : SPth pc Cs w ws r) : SPth pc (C :: Cs) a (w :: ws) (pc a w + (c + r))

theorem SPth.len {pc : ByteArray → ByteArray → Int} {Cs : List CandL} {a : ByteArray} {ws : List ByteArray} {c : Int} (h : SPth pc Cs a ws c) : ws.length = Cs.length := by
  induction h with
  | nil => rfl
  | cons hw h ih => simp [ih]

/-! ### Texts of symbols and of models, plain -/
def symLineB (s : Symbol) : List UInt8 := bl s.label ++ [32] ++ bl (itS s.box.x1) ++ [32] ++ bl (itS s.box.y1) ++ [32] ++ bl (itS s.box.x2) ++ [32] ++ bl (itS s.box.y2) ++ [10]

def symTextB (l : List Symbol) : List UInt8 := l.flatMap symLineB

/-- What the program's SymbolsText gives. -/
def t_impl_SymbolsText (list_ : Sl Symbol) : Option ByteArray := bif decide ((list_.getD []).length ≤ 4294967296) then (bif okSys (list_.getD []) then some (strL (symTextB (list_.getD []))) else some ⟨#[]⟩) else none

theorem itL {n : Int} (h0 : -9223372036854775808 ≤ n) (h1 : n ≤ 9223372036854775807) : ∃ D, itS n = strL D ∧ bl (itS n) = D ∧ D.length ≤ 20 ∧ t_spec_l01Dec n = some (strL D) := by
  obtain ⟨e1, e2⟩ := l01Dec_ok h0 h1
  refine ⟨bl (itS n), (strL_bl _).symm, rfl, ?_, by rw [strL_bl]; exact e1⟩
  have := strL_size (bl (itS n))
  rw [strL_bl] at this
  omega

theorem bl_length (s : ByteArray) : (bl s).length = s.size := by
  have := strL_size (bl s)
  rw [strL_bl] at this
  exact this.symm

theorem okSys_mem {l : List Symbol} (h : okSys l = true) : ∀ s ∈ l, okSym s = true := by
  intro s hs
  unfold okSys at h
  cases e : firstL fSy l 0 with
  | some r =>
    rw [e] at h
    simp only at h
    rw [fSy_some e] at h
    cases h
  | none =>
    cases c : okSym s with
    | true => rfl
    | false =>
      have key : ∀ (l : List Symbol) (k : Nat), s ∈ l → firstL fSy l k ≠ none := by
        intro l
        induction l with
        | nil => intro k h; cases h
        | cons a l ih =>
          intro k h
          unfold firstL
          cases c2 : okSym a with
          | true =>
            have hf : fSy k a = none := by unfold fSy; rw [c2]; rfl
            rw [hf]
            rcases List.mem_cons.1 h with rfl | h
            · rw [c] at c2; cases c2
            · exact ih (k + 1) h
          | false =>
            have hf : fSy k a = some false := by unfold fSy; rw [c2]; rfl
            rw [hf]
            simp
      exact absurd e (key l 0 hs)

theorem okSym_v {s : Symbol} (h : okSym s = true) : s.label.size = 1 ∧ (0 ≤ s.box.x1 ∧ s.box.x1 ≤ 4095) ∧ (0 ≤ s.box.y1 ∧ s.box.y1 ≤ 4095) ∧ (0 ≤ s.box.x2 ∧ s.box.x2 ≤ 4095) ∧ (0 ≤ s.box.y2 ∧ s.box.y2 ≤ 4095) := by
  unfold okSym isLabel validBox within at h
  simp only [Bool.and_eq_true, decide_eq_true_eq] at h
  omega

theorem symLine_len {s : Symbol} (h : okSym s = true) : (symLineB s).length ≤ 86 := by
  obtain ⟨h1, h2, h3, h4, h5⟩ := okSym_v h
  obtain ⟨D1, _, e1, l1, _⟩ := itL (n := s.box.x1) (by omega) (by omega)
  obtain ⟨D2, _, e2, l2, _⟩ := itL (n := s.box.y1) (by omega) (by omega)
  obtain ⟨D3, _, e3, l3, _⟩ := itL (n := s.box.x2) (by omega) (by omega)
  obtain ⟨D4, _, e4, l4, _⟩ := itL (n := s.box.y2) (by omega) (by omega)
  have := bl_length s.label
  unfold symLineB
  rw [e1, e2, e3, e4]
  simp only [List.length_append, List.length_cons, List.length_nil]
  omega

theorem flat_len {A : Type} {f : A → List UInt8} {c : Nat} : ∀ {l : List A}, (∀ a ∈ l, (f a).length ≤ c) → (l.flatMap f).length ≤ c * l.length
  | [], _ => by simp
  | a :: l, h => by
    have h1 := h a (List.mem_cons_self ..)
    have h2 := flat_len (l := l) (fun x hx => h x (List.mem_cons_of_mem _ hx))
    rw [List.flatMap_cons, List.length_append, List.length_cons, Nat.mul_succ]
    omega

theorem flat_take {A : Type} (f : A → List UInt8) {l : List A} {k : Nat} {a : A} (h : l[k]? = some a) : (l.take (k + 1)).flatMap f = (l.take k).flatMap f ++ f a := by
  rw [List.take_add_one, h, List.flatMap_append]
  simp

theorem nl10 : (⟨#[10]⟩ : ByteArray) = strL [10] := (rfl)

section
open Go.RowKit
/-! ### A fresh slice of strings -/
theorem matR_strs (d : Nat) : ∀ (l : List ByteArray) (b : Nat), matR (mat d) (l.map fun s => [sv s]) b = (l.map fun s => [sv s], [])
  | [], _ => rfl
  | s :: l, b => by
    have h := matL_sc (d := d) (ps := [sv s]) rfl b
    rw [List.map_cons, matR, h, matR_strs d l]
    rfl
theorem cellAt_strs {l : List ByteArray} {i j : Nat} {c : AV} (h : cellAt (l.map fun s => [sv s]) i j = some c) : ∃ s, l[i]? = some s ∧ j = 0 ∧ c = sv s := by
  unfold cellAt at h
  rw [List.getElem?_map] at h
  cases e : l[i]? with
  | none => rw [e] at h; cases h
  | some s =>
    rw [e] at h
    match j, h with
    | 0, h => cases h; exact ⟨s, rfl, rfl, rfl⟩
    | j + 1, h => simp at h
theorem repN_strs {X : Nat → Prop} {w : World} {l : List ByteArray} {t : TypeId} :
    RepN X w.heap.size (w.alloc (.cells (l.map Value.string).toArray t)) (rS (some l)) (.slice (some ⟨w.heap.size, 0, none⟩) l.length l.length) := by
  have em : ∀ base, mat depth (rS (some l)) base = (.sl base l.length 0 l.length, [⟨1, l.map fun s => [sv s]⟩]) := fun base => by
    show ((AV.sl base (l.map fun s : ByteArray => [sv s]).length 0 (l.map fun s : ByteArray => [sv s]).length, (⟨1, (matR (mat 7) (l.map fun s => [sv s]) (base + 1)).1⟩ : AObj) :: (matR (mat 7) (l.map fun s => [sv s]) (base + 1)).2) : AV × Heap) = _
    rw [matR_strs, List.length_map]
  have hcell : ∀ (i : Nat) s, l[i]? = some s → (w.alloc (.cells (l.map Value.string).toArray t)).cell? ⟨w.heap.size, i, none⟩ = some (.string s) := fun i s h => by
    rw [World.cell?_alloc_at _ _ _ _ rfl]
    simp [h]
  refine ⟨fun o => if o = 0 then some ⟨w.heap.size, l.length, 1, l.length⟩ else none, fun o io e => ?_, fun base => ⟨fun o io e => ?_, fun H hH => ?_⟩⟩
  · dsimp only at e
    split at e
    · cases e; exact Nat.le_refl _
    · cases e
  · dsimp only at e
    split at e
    · rename_i h0
      subst h0
      rw [em]
      exact Nat.zero_lt_one
    · cases e
  · have hs : ∀ o io, sh base (fun o => if o = 0 then some (⟨w.heap.size, l.length, 1, l.length⟩ : OI) else none) o = some io → o = base ∧ io = ⟨w.heap.size, l.length, 1, l.length⟩ := fun o io e => by
      obtain ⟨h1, h2⟩ := sh_some e
      split at h2
      · cases h2
        exact ⟨by omega, rfl⟩
      · cases h2
    have hb : sh base (fun o => if o = 0 then some (⟨w.heap.size, l.length, 1, l.length⟩ : OI) else none) base = some ⟨w.heap.size, l.length, 1, l.length⟩ := by
      unfold sh
      rw [if_pos (Nat.le_refl _), Nat.sub_self]
      rfl
    have hH0 : H[base]? = some ⟨1, l.map fun s => [sv s]⟩ := by
      have := hH 0 ⟨1, l.map fun s => [sv s]⟩ (by rw [em]; rfl)
      rwa [Nat.add_zero] at this
    rw [em]
    refine ⟨⟨fun o io e => ?_, fun o o' io io' e e' _ => by rw [(hs o io e).1, (hs o' io' e').1]⟩, ?_⟩
    · obtain ⟨rfl, rfl⟩ := hs o io e
      refine ⟨_, hH0, rfl, by simp, Nat.le_refl _, fun row hr => ?_, fun x hx => ?_, fun i j c hc => ?_, by simp, fun h => absurd rfl h⟩
      · obtain ⟨s, _, rfl⟩ := List.mem_map.1 hr
        exact ⟨rfl, rfl⟩
      · have hx' : x < l.length := by simpa using hx
        obtain ⟨s, h⟩ : ∃ s, l[x]? = some s := ⟨_, List.getElem?_eq_getElem hx'⟩
        exact ⟨by rw [hcell x s h]; rfl, World.frozen?_alloc_at _ _ _ _ rfl⟩
      · obtain ⟨s, h, rfl, rfl⟩ := cellAt_strs hc
        exact ⟨.string s, by rw [Nat.mul_one, Nat.add_zero]; exact hcell i s h, .sc rfl⟩
    · exact .sl hb (Nat.le_refl _) fun _ => ⟨Nat.le_refl _, Nat.zero_add _, fun _ => by simp⟩
end

section
open Go.Shelf Go.RowKit
theorem callsB0 {P : Program} {g : Nat} {vs : Array Value} {w : World} {R : Ending → World → Prop} (hb : HasBody P g) (h : Calls P g vs w R) : CallF P g vs w R := by
  unfold CallF
  rw [callFunc_body hb]
  exact h
theorem belowD0 {B : Nat} {w w' : World} (h : Below B w w') : BelowD B w w' := ⟨h, fun c => c.elim⟩
theorem c2_inv {A A2 Z : Type} [Cod A] [Cod A2] {e : Z → AV} {t : A → A2 → Option Z} {ds : List AV} {r : AV} (h : C2 e t ds = some r) : ∃ a b z, ds = [enc a, enc b] ∧ t a b = some z ∧ r = e z := by
  match ds, h with
  | [x, y], h =>
    have h2 : obind (dec x) (fun a0 => obind (dec y) fun b0 => obind (t a0 b0) fun c => some (e c)) = some r := h
    obtain ⟨a, h3, h4⟩ := obind_some h2
    obtain ⟨b, h5, h6⟩ := obind_some h4
    obtain ⟨z, h7, h8⟩ := obind_some h6
    cases h8
    exact ⟨a, b, z, by rw [Cod.ed _ _ h3, Cod.ed _ _ h5], h7, rfl⟩
theorem arr_two {vs : Array Value} {x y : AV} (h : vs.size = [x, y].length) : ∃ u v, vs = #[u, v] := by
  match vs, h with
  | ⟨[u, v]⟩, _ => exact ⟨u, v, rfl⟩
theorem rep_sv0 {own : Nat → Prop} {w : World} {ρ : RM} {s : ByteArray} {v : Value} (h : Rep own w ρ (sv s) v) : v = .string s := by cases h; rfl
/-- The parts of a text. -/
def splitO (s sep : ByteArray) : Option (Sl ByteArray) := bif decide (s.size ≤ 4294967000) && decide (1 ≤ sep.size) then some (some (Lib.splitB sep 0 (Lib.countB s sep) s)) else none
theorem hasSplit : HasBody Tryd.prog 23 := ⟨Tryd.f23, _, Tryd.func23, rfl, rfl⟩
theorem glob_max {w : World} (hg : Glob Tryd.prog w) : ∃ m : Int, w.cell? ⟨laySplit_ren.g 1, 0, none⟩ = some (.int .i64 m) := by
  have h := hg ("internal/bytealg.MaxLen", .i64, []) (by simp [libTabs]) (laySplit_ren.g 1) (by kernel_rfl)
  rcases h with ⟨_, g, m, h1, h2⟩ | ⟨h1, _⟩
  · have e : g = laySplit_ren.g 1 := Option.some.inj (h1.symm.trans (show Tryd.prog.globalNamed "internal/bytealg.MaxLen" = some (laySplit_ren.g 1) by kernel_rfl))
    exact ⟨m, by rw [← e]; exact h2⟩
  · exact absurd rfl h1
theorem tt_strings_Split : PureOK Tryd.prog n_strings_Split (C2 (fun c : Sl ByteArray => rS c) splitO) := by
  intro ds r hf X w vs hg hn hvs
  obtain ⟨s, sep, z, rfl, ht, rfl⟩ := c2_inv hf
  obtain ⟨u, v, rfl⟩ := arr_two hn
  cases rep_sv0 (hvs 0 _ u rfl rfl)
  cases rep_sv0 (hvs 1 _ v rfl rfl)
  unfold splitO at ht
  cases c : decide (s.size ≤ 4294967000) && decide (1 ≤ sep.size) with
  | false => rw [c] at ht; cases ht
  | true =>
    rw [c] at ht
    cases ht
    rw [Bool.and_eq_true, decide_eq_true_eq, decide_eq_true_eq] at c
    obtain ⟨m, hm⟩ := glob_max hg
    refine callsB0 hasSplit ((Any.strings_Split laySplit (by kernel_rfl) s sep m w (by omega) hm c.2).mono fun e w' ⟨h1, h2⟩ => ?_)
    have hlen := Lib.splitB_all sep c.2 0 _ s rfl
    rw [← hlen] at h1
    subst h2
    exact ⟨_, h1, belowD0 ((Below.refl _ w).alloc (Nat.le_refl _) _), repN_strs⟩
end

section
open Go.Shelf Go.RowKit
/-! ### strings.Builder: the library's contracts at this program -/
def layBWrite_ren : Go.Shelf.Ren := ⟨fun | 166 => 32 | 240 => 50 | 276 => 62 | n => n, fun | 70 => 57 | 9 => 9 | 3 => 3 | 75 => 51 | 0 => 0 | 72 => 60 | 37 => 58 | 4 => 4 | 164 => 82 | 5 => 5 | 80 => 63 | 20 => 20 | n => n, fun | n => n⟩
theorem layBWrite : Go.Proofs.Lays.n166 Tryd.prog layBWrite_ren := {
  mixed := by kernel_rfl
  f166 := Tryd.func32.trans (congrArg some (by kernel_rfl))
  f240 := Tryd.func50.trans (congrArg some (by kernel_rfl))
  f276 := Tryd.func62.trans (congrArg some (by kernel_rfl))
  t0 := Tryd.underlying0
  a0 := Tryd.isAgg0
  z0 := Tryd.sizeOf0
  v0 := Tryd.zeroValue0
  t3 := Tryd.underlying3
  a3 := Tryd.isAgg3
  z3 := Tryd.sizeOf3
  v3 := Tryd.zeroValue3
  t4 := Tryd.underlying4
  a4 := Tryd.isAgg4
  z4 := Tryd.sizeOf4
  v4 := Tryd.zeroValue4
  t9 := Tryd.underlying9
  a9 := Tryd.isAgg9
  z9 := Tryd.sizeOf9
  v9 := Tryd.zeroValue9
  t20 := Tryd.underlying20
  a20 := Tryd.isAgg20
  z20 := Tryd.sizeOf20
  v20 := Tryd.zeroValue20
  t37 := Tryd.underlying58
  a37 := Tryd.isAgg58
  z37 := Tryd.sizeOf58
  v37 := Tryd.zeroValue58
  t70 := Tryd.underlying57
  a70 := Tryd.isAgg57
  z70 := Tryd.sizeOf57
  v70 := Tryd.zeroValue57
  t72 := Tryd.underlying60
  a72 := Tryd.isAgg60
  z72 := Tryd.sizeOf60
  v72 := Tryd.zeroValue60
  t75 := Tryd.underlying51
  a75 := Tryd.isAgg51
  z75 := Tryd.sizeOf51
  v75 := Tryd.zeroValue51
  t164 := Tryd.underlying82
  a164 := Tryd.isAgg82
  z164 := Tryd.sizeOf82
  v164 := Tryd.zeroValue82 }
theorem extraBW : Builder.Extra Tryd.prog layBWrite_ren where
  sizeBuilder := by kernel_rfl
  liesBuilder := by kernel_rfl
  t5 := Tryd.underlying5
  a5 := Tryd.isAgg5
  z5 := Tryd.sizeOf5
  v5 := Tryd.zeroValue5
  infoByte := by kernel_rfl
  cellsByte := by kernel_rfl
  sizeByte := by kernel_rfl
  neB5 := by decide
theorem extraBS : Builder.Extra Tryd.prog layBStr_ren where
  sizeBuilder := by kernel_rfl
  liesBuilder := by kernel_rfl
  t5 := Tryd.underlying5
  a5 := Tryd.isAgg5
  z5 := Tryd.sizeOf5
  v5 := Tryd.zeroValue5
  infoByte := by kernel_rfl
  cellsByte := by kernel_rfl
  sizeByte := by kernel_rfl
  neB5 := by decide
/-- A builder that holds these bytes. -/
abbrev BuildB (B b : Nat) (l : List UInt8) (w : World) : Prop := Lib.IsBuilderF 60 5 B b (Lib.byteCells l) w
theorem bwriteB (B b : Nat) (l : List UInt8) (s : ByteArray) (w : World) (h : BuildB B b l w) (hlen : l.length + s.size ≤ 1000000) (hB : B ≤ w.heap.size) :
    Calls Tryd.prog 32 #[.pointer (some ⟨b, 0, none⟩), .string s] w fun e w' => e = .returned (.tuple #[.int .i64 s.size, .nilIface]) ∧ BuildB B b (l ++ bl s) w' ∧ Below B w w' :=
  (Any.Builder_WriteString_f layBWrite extraBW B b (Lib.byteCells l) s w h (by rw [Lib.byteCells_length]; omega) hB).mono fun e w' ⟨h1, h2, h3⟩ => ⟨h1, by
    rw [Lib.strCells_eq, ← Lib.byteCells_append] at h2
    exact Or.inr h2, h3⟩
theorem bstrB (B b : Nat) (l : List UInt8) (w : World) (h : BuildB B b l w) (hB : B ≤ w.heap.size) :
    Calls Tryd.prog 33 #[.pointer (some ⟨b, 0, none⟩)] w fun e w' => e = .returned (.string (strL l)) ∧ Below B w w' :=
  (Any.Builder_String_any_f layBStr extraBS B b l w h hB).mono fun e w' ⟨h1, _, h3⟩ => ⟨h1, h3⟩
theorem keepCellB {B A o : Nat} {w w' : World} {v : Value} (hb : Below B w w') (hA : A < B) (h : w.cell? ⟨A, o, none⟩ = some v) : w'.cell? ⟨A, o, none⟩ = some v := by
  rw [World.cell?_of_block (w := w) (a := ⟨A, o, none⟩) (hb.block A hA)]
  exact h
theorem freshB {B : Nat} {w : World} (hB : B ≤ w.heap.size) : BuildB B w.heap.size [] (w.alloc (.cells #[.pointer none, .slice none 0 0] 60)) :=
  .inl ⟨hB, .slice none 0 0, heap_alloc_new w _, World.ownsRowF_nil _ _ _ _, by simp [Value.ownBlock]⟩
/-- What an engine's contract says, as the kit says it. -/
theorem callsB {P : Program} {g : Nat} {vs : Array Value} {w : World} {R : Ending → World → Prop} (hb : HasBody P g) (h : CallF P g vs w R) : Calls P g vs w R := by
  unfold CallF at h
  rw [callFunc_body hb] at h
  exact h
theorem glob_belowB {P : Program} {w w' : World} (h : Glob P w) (hb : Below w.heap.size w w') : Glob P w' := fun t ht g hg => tabIs_block hg (h t ht g hg) fun hlt => hb.block g hlt
theorem repN_svB {X : Nat → Prop} {B : Nat} {w : World} {s : ByteArray} {v : Value} (h : RepN X B w (sv s) v) : v = .string s := by
  obtain ⟨ρ0, h1, h2⟩ := h
  obtain ⟨h3, h4⟩ := h2 0
  obtain ⟨_, h5⟩ := h4 (mat depth (sv s) 0).2 (fun i ob e => by rw [Nat.zero_add]; exact e)
  have e : (mat depth (sv s) 0).1 = sv s := rfl
  rw [e] at h5
  cases h5
  rfl
theorem repN_bvB {X : Nat → Prop} {B : Nat} {w : World} {b : Bool} {v : Value} (h : RepN X B w (bv b) v) : v = .bool b := by
  obtain ⟨ρ0, h1, h2⟩ := h
  obtain ⟨h3, h4⟩ := h2 0
  obtain ⟨_, h5⟩ := h4 (mat depth (bv b) 0).2 (fun i ob e => by rw [Nat.zero_add]; exact e)
  have e : (mat depth (bv b) 0).1 = bv b := rfl
  rw [e] at h5
  cases h5
  rfl
theorem decB {n : Int} (h0 : 0 ≤ n) (h1 : n ≤ 1000000) {w : World} (hg : Glob Tryd.prog w) :
    Calls Tryd.prog 27 #[.int .i64 n] w fun e w' => e = .returned (.string (itS n)) ∧ Below w.heap.size w w' := by
  have e0 : (C1 (fun c : ByteArray => enc c) t_impl_Decimal) [iv n] = some (sv (itS n)) := by
    have : (C1 (fun c : ByteArray => enc c) t_impl_Decimal) [enc n] = obind (t_impl_Decimal n) fun c => some (enc c) := R1_enc _ _
    rw [show (iv n : AV) = enc n from rfl, this, decimal_ok (by omega) (by omega)]
    rfl
  have hp := tt_impl_Decimal [iv n] _ e0 (fun _ => False) w #[.int .i64 n] hg rfl (fun i d v h2 h3 => by
    match i, h2, h3 with
    | 0, h2, h3 => cases h2; cases h3; exact .sc rfl)
  refine (callsB hb_impl_Decimal hp).mono fun e w' ⟨v, e1, e2, e3⟩ => ⟨?_, e2.toBelow⟩
  rw [e1, repN_svB e3]
end

section
open Go.Shelf Go.RowKit
/-- What stands while a line is made, beside the element's own cells. -/
structure KeepB (w : World) (t o b : Nat) (W : World) : Prop where
  g0 : Glob Tryd.prog w
  ne : o ≠ b
  nt : t ≠ 5
  blk : ∃ c fz, W.heap[o]? = some (.cells c t fz)
  blw : Below w.heap.size w W
theorem KeepB.lt {w : World} {t o b : Nat} {W : World} (h : KeepB w t o b W) : o < W.heap.size := by
  obtain ⟨c, fz, h⟩ := h.blk
  exact (Array.getElem?_eq_some_iff.1 h).1
theorem KeepB.glob {w : World} {t o b : Nat} {W : World} (h : KeepB w t o b W) : Glob Tryd.prog W := glob_belowB h.g0 h.blw
theorem KeepB.keep {w : World} {t o b : Nat} {W W' : World} (hd : Below W.heap.size W W') (h : KeepB w t o b W) : KeepB w t o b W' := by
  obtain ⟨c, fz, hc⟩ := h.blk
  exact ⟨h.g0, h.ne, h.nt, ⟨c, fz, by rw [hd.block o h.lt]; exact hc⟩, h.blw.trans (hd.mono h.blw.size)⟩
theorem KeepB.drew {w : World} {t o b : Nat} {W : World} (h : KeepB w t o b W) : KeepB w t o b W.drew := h.keep (Below.refl _ _).drew
theorem KeepB.others {w : World} {t o b : Nat} {W W' : World} (hw : Below w.heap.size W W') (ho : Lib.OthersKept 5 (some b) W W') (h : KeepB w t o b W) : W'.heap[o]? = W.heap[o]? ∧ KeepB w t o b W' := by
  obtain ⟨c, fz, hc⟩ := h.blk
  have e := ho o _ hc (fun e => h.ne (Option.some.inj e)) (fun c' fz' e => by
    have e2 := congrArg (fun x => match x with | Obj.cells _ t _ => t | _ => 0) e
    exact h.nt e2)
  exact ⟨by rw [e, hc], h.g0, h.ne, h.nt, ⟨c, fz, e⟩, h.blw.trans hw⟩
theorem keepB_start {w wr : World} {t b : Nat} {cs : Array Value} (hb : Below w.heap.size w wr) (hg : Glob Tryd.prog w) (hlt : b < wr.heap.size) (nt : t ≠ 5) : KeepB w t wr.heap.size b (wr.alloc (.cells cs t)) :=
  ⟨hg, by omega, nt, ⟨cs, _, heap_alloc_new wr _⟩, hb.alloc hb.size _⟩
theorem bwriteK (B b : Nat) (l : List UInt8) (s : ByteArray) (w : World) (h : BuildB B b l w) (hlen : l.length + s.size ≤ 1000000) (hB : B ≤ w.heap.size) :
    Calls Tryd.prog 32 #[.pointer (some ⟨b, 0, none⟩), .string s] w fun e w' => e = .returned (.tuple #[.int .i64 s.size, .nilIface]) ∧ BuildB B b (l ++ bl s) w' ∧ Below B w w' ∧ Lib.OthersKept 5 (some b) w w' :=
  (Any.Builder_WriteString_k layBWrite extraBW B b (Lib.byteCells l) s w h (by rw [Lib.byteCells_length]; omega) hB).mono fun e w' ⟨h1, h2, h3, h4⟩ => ⟨h1, by
    rw [Lib.strCells_eq, ← Lib.byteCells_append] at h2
    exact Or.inr h2, h3, h4⟩
theorem build_lt {B b : Nat} {l : List UInt8} {w : World} (h : BuildB B b l w) : b < w.heap.size := by
  rcases h with ⟨_, v, h, _⟩ | ⟨_, v, h, _⟩
  · exact (Array.getElem?_eq_some_iff.1 h).1
  · exact (Array.getElem?_eq_some_iff.1 h).1
theorem build4 {B b : Nat} {l : List UInt8} {W0 W1 W2 W3 W4 : World} (h4 : Below W3.heap.size W3 W4) (h3 : Below W2.heap.size W2 W3) (h2 : Below W1.heap.size W1 W2) (h1 : Below W0.drew.heap.size W0.drew W1) (h : BuildB B b l W0) : BuildB B b l W4 :=
  (((Lib.IsBuilderF.below (Lib.IsBuilderF.below h (Below.refl _ _).drew) h1).below h2).below h3).below h4
abbrev SymS (w : World) (o b : Nat) (s : Symbol) (W : World) : Prop :=
  W.cell? ⟨o, 0, none⟩ = some (.string s.label) ∧ W.cell? ⟨o, 1, none⟩ = some (.int .i64 s.box.x1) ∧ W.cell? ⟨o, 2, none⟩ = some (.int .i64 s.box.y1) ∧ W.cell? ⟨o, 3, none⟩ = some (.int .i64 s.box.x2) ∧ W.cell? ⟨o, 4, none⟩ = some (.int .i64 s.box.y2) ∧ KeepB w 33 o b W
theorem symS_keep {w : World} {o b : Nat} {s : Symbol} {W W' : World} (hd : Below W.heap.size W W') (h : SymS w o b s W) : SymS w o b s W' := by
  obtain ⟨g0, g1, g2, g3, g4, g5⟩ := h
  exact ⟨keepCellB hd g5.lt g0, keepCellB hd g5.lt g1, keepCellB hd g5.lt g2, keepCellB hd g5.lt g3, keepCellB hd g5.lt g4, g5.keep hd⟩
theorem symS_others {w : World} {o b : Nat} {s : Symbol} {W W' : World} (ho : Lib.OthersKept 5 (some b) W W') (hw : Below w.heap.size W W') (h : SymS w o b s W) : SymS w o b s W' := by
  obtain ⟨g0, g1, g2, g3, g4, g5⟩ := h
  obtain ⟨e, g6⟩ := g5.others hw ho
  have hc : ∀ j, W'.cell? ⟨o, j, none⟩ = W.cell? ⟨o, j, none⟩ := fun j => World.cell?_of_block (w := W) (a := ⟨o, j, none⟩) e
  exact ⟨by rw [hc]; exact g0, by rw [hc]; exact g1, by rw [hc]; exact g2, by rw [hc]; exact g3, by rw [hc]; exact g4, g6⟩
theorem symS_glob {w : World} {o b : Nat} {s : Symbol} {W : World} (h : SymS w o b s W) : Glob Tryd.prog W := h.2.2.2.2.2.glob
theorem symS_size {w : World} {o b : Nat} {s : Symbol} {W : World} (h : SymS w o b s W) : w.heap.size ≤ W.heap.size := h.2.2.2.2.2.blw.size
theorem symS_below {w : World} {o b : Nat} {s : Symbol} {W : World} (h : SymS w o b s W) : Below w.heap.size w W := h.2.2.2.2.2.blw
theorem symLine_bl (s : Symbol) : bl (s.label ++ ⟨#[32]⟩ ++ itS s.box.x1 ++ ⟨#[32]⟩ ++ itS s.box.y1 ++ ⟨#[32]⟩ ++ itS s.box.x2 ++ ⟨#[32]⟩ ++ itS s.box.y2 ++ ⟨#[10]⟩) = symLineB s := by
  have ha : ∀ a b : ByteArray, bl (a ++ b) = bl a ++ bl b := fun a b => by
    rw [← strL_bl a, ← strL_bl b, strL_app, bl_strL, bl_strL, bl_strL]
  have h1 : bl (⟨#[32]⟩ : ByteArray) = [32] := rfl
  have h2 : bl (⟨#[10]⟩ : ByteArray) = [10] := rfl
  unfold symLineB
  simp only [ha, h1, h2]
set_option maxHeartbeats 4000000 in
theorem symWalkB (l : List Symbol) (hok : okSys l = true) (base : Option Addr) (cap : Nat) (w : World) (hg : Glob Tryd.prog w)
    (hcells : ∀ (k : Nat) s, l[k]? = some s → ∃ A off, base = some ⟨A, off, none⟩ ∧ w.cell? ⟨A, off + k * 5, none⟩ = some (.string s.label) ∧ w.cell? ⟨A, off + k * 5 + 1, none⟩ = some (.int .i64 s.box.x1) ∧ w.cell? ⟨A, off + k * 5 + 2, none⟩ = some (.int .i64 s.box.y1) ∧ w.cell? ⟨A, off + k * 5 + 3, none⟩ = some (.int .i64 s.box.x2) ∧ w.cell? ⟨A, off + k * 5 + 4, none⟩ = some (.int .i64 s.box.y2))
    (hval : Calls Tryd.prog 15 #[.slice base l.length cap] w fun e w' => e = .returned (.bool true) ∧ Below w.heap.size w w') :
    Calls Tryd.prog 16 #[.slice base l.length cap] w fun e w' => e = .returned (.string (strL (symTextB l))) ∧ Below w.heap.size w w' := by
  have mixed : Tryd.prog.follows .mixedOrders = true := by kernel_rfl
  go_enter Tryd.func16, Tryd.ntmps16
  go_wp2_with (go_at_call 15; refine hval.mono ?_)
  rintro e w1 ⟨rfl, b1⟩
  go_wp2
  go_loopw [11] (fun i wr => ∃ k : Nat, i = .int .i64 k ∧ k ≤ l.length ∧ BuildB w.heap.size w1.heap.size (symTextB (l.take k)) wr ∧ Below w.heap.size w wr) (fun i _ => l.length - (intOf i).toNat)
  case atStart => exact ⟨0, rfl, Nat.zero_le _, freshB b1.size, b1.alloc b1.size _⟩
  case round =>
    obtain ⟨k, rfl, hk, hI, hb⟩ := hrel
    by_cases hkl : k < l.length
    · obtain ⟨s, hs⟩ : ∃ s, l[k]? = some s := ⟨_, List.getElem?_eq_getElem hkl⟩
      obtain ⟨A, off, rfl, c0, c1, c2, c3, c4⟩ := hcells k s hs
      have hok' := okSys_mem hok s (List.mem_of_getElem? hs)
      obtain ⟨v0, v1, v2, v3, v4⟩ := okSym_v hok'
      have hA := block_lt_of_cell c0
      replace c0 := keepCellB hb hA c0
      replace c1 := keepCellB hb hA c1
      replace c2 := keepCellB hb hA c2
      replace c3 := keepCellB hb hA c3
      replace c4 := keepCellB hb hA c4
      have hi0 : (0 : Int) ≤ (k : Int) := by omega
      have hi1 : (k : Int) < (l.length : Int) := by omega
      go_wp2
      have hK : KeepB w 33 wr.heap.size w1.heap.size (wr.alloc (Obj.cells #[Value.string s.label, Value.int IntKind.i64 s.box.x1, Value.int IntKind.i64 s.box.y1, Value.int IntKind.i64 s.box.x2, Value.int IntKind.i64 s.box.y2] 33)) := keepB_start hb hg (build_lt hI) (by decide)
      have hJ := hI.alloc (Obj.cells #[Value.string s.label, Value.int IntKind.i64 s.box.x1, Value.int IntKind.i64 s.box.y1, Value.int IntKind.i64 s.box.x2, Value.int IntKind.i64 s.box.y2] 33)
      have hc : ∀ j, (wr.alloc (Obj.cells #[Value.string s.label, Value.int IntKind.i64 s.box.x1, Value.int IntKind.i64 s.box.y1, Value.int IntKind.i64 s.box.x2, Value.int IntKind.i64 s.box.y2] 33)).cell? ⟨wr.heap.size, j, none⟩ = #[Value.string s.label, Value.int IntKind.i64 s.box.x1, Value.int IntKind.i64 s.box.y1, Value.int IntKind.i64 s.box.x2, Value.int IntKind.i64 s.box.y2][j]? := fun j => World.cell?_alloc_at _ _ _ _ rfl
      have hwk : IntKind.i64.wrap ((k : Int) + 1) = (k : Int) + 1 := by rw [IntKind.wrap_i64]; have := okSys_len hok; omega
      have d1 : s.box.x1 ≤ 1000000 := by omega
      have d2 : s.box.y1 ≤ 1000000 := by omega
      have d3 : s.box.x2 ≤ 1000000 := by omega
      have d4 : s.box.y2 ≤ 1000000 := by omega
      have i1 := (l01Dec_ok (n := s.box.x1) (by omega) (by omega)).2
      have i2 := (l01Dec_ok (n := s.box.y1) (by omega) (by omega)).2
      have i3 := (l01Dec_ok (n := s.box.x2) (by omega) (by omega)).2
      have i4 := (l01Dec_ok (n := s.box.y2) (by omega) (by omega)).2
      have n1 : ¬ (9223372036854775807 < s.label.size + 1) := by omega
      have n2 : ¬ (9223372036854775807 < s.label.size + 1 + (itS s.box.x1).size) := by omega
      have n3 : ¬ (9223372036854775807 < s.label.size + 1 + (itS s.box.x1).size + 1) := by omega
      have n4 : ¬ (9223372036854775807 < s.label.size + 1 + (itS s.box.x1).size + 1 + (itS s.box.y1).size) := by omega
      have n5 : ¬ (9223372036854775807 < s.label.size + 1 + (itS s.box.x1).size + 1 + (itS s.box.y1).size + 1) := by omega
      have n6 : ¬ (9223372036854775807 < s.label.size + 1 + (itS s.box.x1).size + 1 + (itS s.box.y1).size + 1 + (itS s.box.x2).size) := by omega
      have n7 : ¬ (9223372036854775807 < s.label.size + 1 + (itS s.box.x1).size + 1 + (itS s.box.y1).size + 1 + (itS s.box.x2).size + 1) := by omega
      have n8 : ¬ (9223372036854775807 < s.label.size + 1 + (itS s.box.x1).size + 1 + (itS s.box.y1).size + 1 + (itS s.box.x2).size + 1 + (itS s.box.y2).size) := by omega
      have n9 : ¬ (9223372036854775807 < s.label.size + 1 + (itS s.box.x1).size + 1 + (itS s.box.y1).size + 1 + (itS s.box.x2).size + 1 + (itS s.box.y2).size + 1) := by omega
      have n10 : (symTextB (l.take k)).length + (s.label ++ ⟨#[32]⟩ ++ itS s.box.x1 ++ ⟨#[32]⟩ ++ itS s.box.y1 ++ ⟨#[32]⟩ ++ itS s.box.x2 ++ ⟨#[32]⟩ ++ itS s.box.y2 ++ ⟨#[10]⟩).size ≤ 1000000 := by
        have h6 := flat_len (f := symLineB) (c := 86) (l := l.take k) (fun a ha => symLine_len (okSys_mem hok a (List.mem_of_mem_take ha)))
        have h7 : (l.take k).length ≤ 8 := by rw [List.length_take]; have := okSys_len hok; omega
        have h8 : 86 * (l.take k).length ≤ 86 * 8 := Nat.mul_le_mul_left _ h7
        have e1 : (⟨#[32]⟩ : ByteArray).size = 1 := rfl
        have e2 : (⟨#[10]⟩ : ByteArray).size = 1 := rfl
        simp only [ByteArray.size_append, e1, e2]
        unfold symTextB
        omega
      clear v0 i1 i2 i3 i4
      have g0 := hc 0
      have g1 := hc 1
      have g2 := hc 2
      have g3 := hc 3
      have g4 := hc 4
      go_region_held3 (fun w' => w'.cell? ⟨wr.heap.size, 0, none⟩ = some (.string s.label) ∧ w'.cell? ⟨wr.heap.size, 1, none⟩ = some (.int .i64 s.box.x1) ∧ w'.cell? ⟨wr.heap.size, 2, none⟩ = some (.int .i64 s.box.y1) ∧ w'.cell? ⟨wr.heap.size, 3, none⟩ = some (.int .i64 s.box.x2) ∧ w'.cell? ⟨wr.heap.size, 4, none⟩ = some (.int .i64 s.box.y2) ∧ KeepB w 33 wr.heap.size w1.heap.size w')
        (first | (exact symS_keep (by assumption) (by assumption)) | (exact symS_others (by assumption) (by assumption) (by assumption)) | (refine ⟨?_, ?_, ?_, ?_, ?_, ?_⟩ <;> first | assumption | exact KeepB.drew (by assumption)))
        (first
          | (go_at_call_of 27 (Value.int .i64 s.box.x1); refine (decB v1.1 d1 ?_).mono ?_; (exact symS_glob (by assumption)); rintro e w' ⟨rfl, hd⟩)
          | (go_at_call_of 27 (Value.int .i64 s.box.y1); refine (decB v2.1 d2 ?_).mono ?_; (exact symS_glob (by assumption)); rintro e w' ⟨rfl, hd⟩)
          | (go_at_call_of 27 (Value.int .i64 s.box.x2); refine (decB v3.1 d3 ?_).mono ?_; (exact symS_glob (by assumption)); rintro e w' ⟨rfl, hd⟩)
          | (go_at_call_of 27 (Value.int .i64 s.box.y2); refine (decB v4.1 d4 ?_).mono ?_; (exact symS_glob (by assumption)); rintro e w' ⟨rfl, hd⟩)
          | (go_at_call 32; refine (bwriteK w.heap.size w1.heap.size (symTextB (l.take k)) _ _ ?_ n10 ?_).mono ?_; (exact build4 (by assumption) (by assumption) (by assumption) (by assumption) (by assumption)); (exact symS_size (by assumption)); rintro e w' ⟨rfl, hw1, hw2, hw3⟩))
      go_wp2
      go_roundw
      case rel =>
        refine ⟨k + 1, by push_cast; rfl, by omega, ?_, symS_below (by assumption)⟩
        rw [show symTextB (l.take (k + 1)) = symTextB (l.take k) ++ symLineB s from flat_take _ hs, ← symLine_bl]
        exact hw1
      case measure =>
        simp [intOf]
        omega
    · go_wp2_with (go_at_call 33; refine (bstrB w.heap.size w1.heap.size (symTextB (l.take k)) _ hI hb.size).mono ?_)
      rintro e w2 ⟨rfl, b2⟩
      go_wp2
      go_ret
      have e : k = l.length := by omega
      subst e
      rw [List.take_length]
      exact ⟨rfl, hb.trans b2⟩
end

section
open Go.Shelf Go.RowKit
/-! ### The contracts of the two functions -/
theorem hasSymB : HasBody Tryd.prog 16 := ⟨Tryd.f16, _, Tryd.func16, rfl, rfl⟩
theorem belowD_of {B : Nat} {w w' : World} (h : Below B w w') : BelowD B w w' := ⟨h, fun c => c.elim⟩
theorem c1_inv {A Z : Type} [Cod A] {e : Z → AV} {t : A → Option Z} {ds : List AV} {r : AV} (h : C1 e t ds = some r) : ∃ a z, ds = [enc a] ∧ t a = some z ∧ r = e z := by
  match ds, h with
  | [x], h =>
    have h2 : obind (dec x) (fun a0 => obind (t a0) fun c => some (e c)) = some r := h
    obtain ⟨a, h3, h4⟩ := obind_some h2
    obtain ⟨z, h5, h6⟩ := obind_some h4
    cases h6
    exact ⟨a, z, by rw [Cod.ed _ _ h3], h5, rfl⟩
theorem arr_one {vs : Array Value} {x : AV} (h : vs.size = [x].length) : ∃ v, vs = #[v] := by
  match vs, h with
  | ⟨[v]⟩, _ => exact ⟨v, rfl⟩
theorem valSysB {l : Sl Symbol} {X : Nat → Prop} {w : World} {v : Value} (hl : (l.getD []).length ≤ 4294967296) (hg : Glob Tryd.prog w) (hv : Rep (Own X RM.none) w RM.none (Sl.enc l) v) :
    Calls Tryd.prog 15 #[v] w fun e w' => e = .returned (.bool (okSys (l.getD []))) ∧ Below w.heap.size w w' := by
  have e0 : (C1 (fun c : Bool => enc c) t_impl_ValidSymbols) [enc l] = some (bv (okSys (l.getD []))) := by
    have : (C1 (fun c : Bool => enc c) t_impl_ValidSymbols) [enc l] = obind (t_impl_ValidSymbols l) fun c => some (enc c) := R1_enc _ _
    rw [this, validSys_ok l hl]
    rfl
  have hp := tt_impl_ValidSymbols [enc l] _ e0 X w #[v] hg rfl (fun i d u h2 h3 => by
    match i, h2, h3 with
    | 0, h2, h3 => cases h2; cases h3; exact hv)
  refine (callsB hb_impl_ValidSymbols hp).mono fun e w' ⟨u, e1, e2, e3⟩ => ⟨?_, e2.toBelow⟩
  rw [e1, repN_bvB e3]
theorem symNoB (v : Value) (w : World) (hval : Calls Tryd.prog 15 #[v] w fun e w' => e = .returned (.bool false) ∧ Below w.heap.size w w') :
    Calls Tryd.prog 16 #[v] w fun e w' => e = .returned (.string ⟨#[]⟩) ∧ Below w.heap.size w w' := by
  have mixed : Tryd.prog.follows .mixedOrders = true := by kernel_rfl
  go_enter Tryd.func16, Tryd.ntmps16
  go_wp2_with (go_at_call 15; refine hval.mono ?_)
  rintro e w1 ⟨rfl, b1⟩
  go_wp2
  go_ret
  exact ⟨rfl, b1⟩
theorem rowB {A : Type} [Row A] {l : List A} {k j : Nat} {a : A} {c : AV} (h : l[k]? = some a) (hj : (Row.cells a)[j]? = some c) : cellAt (l.map Row.cells) k j = some c := by
  unfold cellAt
  rw [List.getElem?_map, h]
  exact hj
theorem rep_svB {own : Nat → Prop} {w : World} {ρ : RM} {s : ByteArray} {v : Value} (h : Rep own w ρ (sv s) v) : v = .string s := by cases h; rfl
theorem rep_ivB {own : Nat → Prop} {w : World} {ρ : RM} {n : Int} {v : Value} (h : Rep own w ρ (iv n) v) : v = .int .i64 n := by cases h; rfl
/-- A slice of rows that is read: where its cells lie. -/
theorem slB {A : Type} [Row A] {l : Sl A} {own : Nat → Prop} {w : World} {ρ : RM} {v : Value} (h : Rep own w ρ (Sl.enc l) v) :
    ∃ base cap, v = .slice base (l.getD []).length cap ∧ ∀ (k : Nat) a, (l.getD [])[k]? = some a → ∃ B off, base = some ⟨B, off, none⟩ ∧ ∀ (j : Nat) c, (Row.cells a)[j]? = some c → ∃ u, w.cell? ⟨B, off + k * Row.w A + j, none⟩ = some u ∧ Rep own w RM.none c u := by
  cases l with
  | none =>
    cases h
    exact ⟨none, 0, rfl, fun k a h => by simp at h⟩
  | some l =>
    generalize hr : Sl.enc (some l) = d at h
    cases h with
    | @fs _ k rows a cap cf hk hc ha hown hcell hh =>
      have hr2 : (AV.fs (Row.w A) (l.map Row.cells)) = .fs k rows := hr
      cases hr2
      refine ⟨some a, cap, by simp, fun i x hx => ?_⟩
      have hlt : i < l.length := (List.getElem?_eq_some_iff.1 hx).1
      have hs := ha (by simp; omega)
      obtain ⟨B, off, spot⟩ := a
      simp only at hs
      subst hs
      exact ⟨B, off, rfl, fun j c hj => ⟨cf i j, hcell i j c (rowB hx hj), hh i j c (rowB hx hj)⟩⟩
    | sc _ => cases hr
    | top => cases hr
    | agg _ _ _ => cases hr
    | tup _ _ => cases hr
    | ptr _ _ _ => cases hr
    | sl _ _ _ => cases hr
    | fptr _ _ _ _ => cases hr
    | fn _ _ => cases hr
theorem tt_impl_SymbolsText : PureOK Tryd.prog n_impl_SymbolsText (C1 (fun c : ByteArray => enc c) t_impl_SymbolsText) := by
  intro ds r hf X w vs hg hn hvs
  obtain ⟨l, z, rfl, ht, rfl⟩ := c1_inv hf
  obtain ⟨v, rfl⟩ := arr_one hn
  have hv := hvs 0 _ v rfl rfl
  unfold t_impl_SymbolsText at ht
  cases hl : decide ((l.getD []).length ≤ 4294967296) with
  | false => rw [hl, cond_false] at ht; cases ht
  | true =>
    rw [hl, cond_true] at ht
    have hl := of_decide_eq_true hl
    unfold CallF
    rw [callFunc_body hasSymB]
    show Calls Tryd.prog 16 _ w _
    have hval := valSysB hl hg hv
    cases ho : okSys (l.getD []) with
    | false =>
      rw [ho, cond_false] at ht
      cases ht
      rw [ho] at hval
      refine (symNoB v w hval).mono fun e w' ⟨h1, h2⟩ => ⟨_, h1, belowD_of h2, repN_sc rfl⟩
    | true =>
      rw [ho, cond_true] at ht
      cases ht
      rw [ho] at hval
      obtain ⟨base, cap, rfl, hc⟩ := slB hv
      refine (symWalkB (l.getD []) ho base cap w hg (fun k s hs => ?_) hval).mono fun e w' ⟨h1, h2⟩ => ⟨_, h1, belowD_of h2, repN_sc rfl⟩
      obtain ⟨B, off, hb, hcc⟩ := hc k s hs
      obtain ⟨u0, c0, r0⟩ := hcc 0 (sv s.label) rfl
      obtain ⟨u1, c1, r1⟩ := hcc 1 (iv s.box.x1) rfl
      obtain ⟨u2, c2, r2⟩ := hcc 2 (iv s.box.y1) rfl
      obtain ⟨u3, c3, r3⟩ := hcc 3 (iv s.box.x2) rfl
      obtain ⟨u4, c4, r4⟩ := hcc 4 (iv s.box.y2) rfl
      rw [rep_svB r0] at c0
      rw [rep_ivB r1] at c1
      rw [rep_ivB r2] at c2
      rw [rep_ivB r3] at c3
      rw [rep_ivB r4] at c4
      exact ⟨B, off, hb, c0, c1, c2, c3, c4⟩
end

section
open Go.Shelf Go.RowKit
/-- A decimal text of at most 18 digits. -/
def readDecB (s : ByteArray) : Int × Bool :=
  match Lib.parseIntB 64 s.data.toList with
  | .ok v => bif decide (1 ≤ (Lib.trimPrefix s.data.toList [45]).length) && (decide ((Lib.trimPrefix s.data.toList [45]).length ≤ 18) && decide (itS v = s)) then (v, true) else (0, false)
  | _ => (0, false)
def t_impl_ReadDecimal (s_ : ByteArray) : Option (Int × Bool) := bif decide (s_.size ≤ 4294967000) then some (readDecB s_) else none
theorem decB2 {n : Int} (h0 : -9223372036854775808 ≤ n) (h1 : n ≤ 9223372036854775807) {w : World} (hg : Glob Tryd.prog w) :
    Calls Tryd.prog 27 #[.int .i64 n] w fun e w' => e = .returned (.string (itS n)) ∧ Below w.heap.size w w' := by
  have e0 : (C1 (fun c : ByteArray => enc c) t_impl_Decimal) [iv n] = some (sv (itS n)) := by
    have : (C1 (fun c : ByteArray => enc c) t_impl_Decimal) [enc n] = obind (t_impl_Decimal n) fun c => some (enc c) := R1_enc _ _
    rw [show (iv n : AV) = enc n from rfl, this, decimal_ok h0 h1]
    rfl
  have hp := tt_impl_Decimal [iv n] _ e0 (fun _ => False) w #[.int .i64 n] hg rfl (fun i d v h2 h3 => by
    match i, h2, h3 with
    | 0, h2, h3 => cases h2; cases h3; exact .sc rfl)
  refine (callsB hb_impl_Decimal hp).mono fun e w' ⟨v, e1, e2, e3⟩ => ⟨?_, e2.toBelow⟩
  rw [e1, repN_svB e3]
theorem glob_err {w : World} (hg : Glob Tryd.prog w) : (∃ t p, w.cell? ⟨layPInt_ren.g 15, 0, none⟩ = some (.iface t p)) ∧ ∃ t p, w.cell? ⟨layPInt_ren.g 16, 0, none⟩ = some (.iface t p) := by
  have n1 : Tryd.prog.globalNamed "strconv.ErrSyntax" = some (layPInt_ren.g 15) := by kernel_rfl
  have n2 : Tryd.prog.globalNamed "strconv.ErrRange" = some (layPInt_ren.g 16) := by kernel_rfl
  have h1 := hg ("strconv.ErrSyntax", .u8, []) (by simp [libTabs]) _ n1
  have h2 := hg ("strconv.ErrRange", .u8, []) (by simp [libTabs]) _ n2
  constructor
  · rcases h1 with ⟨h, _⟩ | ⟨_, t, p, h⟩
    · cases h
    · exact ⟨t, p, by have h0 := World.var?_cell n1 h 0; simpa using h0⟩
  · rcases h2 with ⟨h, _⟩ | ⟨_, t, p, h⟩
    · cases h
    · exact ⟨t, p, by have h0 := World.var?_cell n2 h 0; simpa using h0⟩
set_option maxHeartbeats 4000000 in
theorem readDecWalk (s : ByteArray) (hs : s.size ≤ 4294967000) (w : World) (hg : Glob Tryd.prog w) :
    Calls Tryd.prog 14 #[.string s] w fun e w' => e = .returned (.tuple #[.int .i64 (readDecB s).1, .bool (readDecB s).2]) ∧ Below w.heap.size w w' := by
  have mixed : Tryd.prog.follows .mixedOrders = true := by kernel_rfl
  obtain ⟨D, hD⟩ : ∃ D, Lib.trimPrefix s.data.toList [45] = D := ⟨_, rfl⟩
  have ht : Calls Tryd.prog 25 #[.string s, .string ⟨#[45]⟩] w fun e w' => e = .returned (.string ⟨D.toArray⟩) ∧ w' = w := by
    rw [← hD]
    exact Any.strings_TrimPrefix layTrimP s ⟨#[45]⟩ w
  have hsz : (⟨D.toArray⟩ : ByteArray).size = D.length := rfl
  go_enter Tryd.func14, Tryd.ntmps14
  go_wp2_with (go_at_call 25; refine ht.mono ?_)
  rintro e w1 ⟨rfl, hw⟩
  obtain rfl : w = w1 := hw.symm
  have no : ¬ (1 ≤ D.length ∧ D.length ≤ 18) → readDecB s = (0, false) := fun h => by
    unfold readDecB
    rw [hD]
    cases Lib.parseIntB 64 s.data.toList with
    | ok v =>
      have : (decide (1 ≤ D.length) && (decide (D.length ≤ 18) && decide (itS v = s))) = false := by
        by_cases h1 : 1 ≤ D.length
        · rw [decide_eq_false (fun h2 => h ⟨h1, h2⟩ : ¬ D.length ≤ 18), Bool.false_and, Bool.and_false]
        · rw [decide_eq_false h1, Bool.false_and]
      simp only [this, cond_false]
    | range => rfl
    | _ => rfl
  by_cases h1 : D.length < 1
  · have a1 : ((D.length : Nat) : Int) < 1 := by omega
    go_wp2
    go_ret2
    rw [no (by omega)]
    exact ⟨rfl, Below.refl _ _⟩
  by_cases h2 : 18 < D.length
  · have a1 : ¬ ((D.length : Nat) : Int) < 1 := by omega
    have a2 : (18 : Int) < ((D.length : Nat) : Int) := by omega
    go_wp2
    go_ret2
    rw [no (by omega)]
    exact ⟨rfl, Below.refl _ _⟩
  have a1 : ¬ ((D.length : Nat) : Int) < 1 := by omega
  have a2 : ¬ (18 : Int) < ((D.length : Nat) : Int) := by omega
  obtain ⟨⟨t1, p1, e1⟩, t2, p2, e2⟩ := glob_err hg
  cases hp : Lib.parseIntB 64 s.data.toList with
  | range =>
    have hr : readDecB s = (0, false) := by unfold readDecB; rw [hp]
    have pc : Calls Tryd.prog 26 #[.string s, .int .i64 10, .int .i64 64] w fun e w' => ∃ n t x, e = .returned (.tuple #[.int .i64 n, .iface t x]) ∧ Below w.heap.size w w' := (Any.strconv_ParseInt_10_at64_range layPInt s (by omega) hp _ w e2 (.inr ⟨t2, p2, rfl⟩)).mono fun e w' ⟨N, h1, _, _, h2⟩ => ⟨_, _, _, h1, h2⟩
    go_wp2_with (go_at_call 26; refine pc.mono ?_)
    rintro e w2 ⟨n, t, x, rfl, b3⟩
    go_wp2
    go_ret2
    rw [hr]
    exact ⟨rfl, b3⟩
  | ok v =>
    have hv := Lib.parseIntB_bounds hp
    have hr : readDecB s = bif decide (itS v = s) then (v, true) else (0, false) := by
      unfold readDecB
      rw [hp, hD]
      have : (decide (1 ≤ D.length) && (decide (D.length ≤ 18) && decide (itS v = s))) = decide (itS v = s) := by
        rw [decide_eq_true (show 1 ≤ D.length by omega), decide_eq_true (show D.length ≤ 18 by omega)]
        rfl
      simp only [this]
    have pc : Calls Tryd.prog 26 #[.string s, .int .i64 10, .int .i64 64] w fun e w' => e = .returned (.tuple #[.int .i64 v, .nilIface]) ∧ Below w.heap.size w w' := (Any.strconv_ParseInt_10_at64_ok layPInt s (by omega) v hp w).mono fun e w' ⟨h1, h2⟩ => ⟨h1, by
      rcases h2 with rfl | ⟨t, rfl⟩
      · exact Below.refl _ _
      · exact Lib.bytesWorld_below _ _ _⟩
    go_wp2_with (go_at_call 26; refine pc.mono ?_)
    rintro e w2 ⟨rfl, b2⟩
    have dc := decB2 (n := v) (by omega) (by omega) (glob_belowB hg b2)
    go_wp2_with (go_at_call 27; refine dc.mono ?_)
    rintro e w3 ⟨rfl, b3⟩
    have b4 : Below w.heap.size w w3 := b2.trans (b3.mono b2.size)
    cases he : (itS v).toList == s.toList with
    | true =>
      have hq : itS v = s := toList_inj.1 (eq_of_beq he)
      go_wp2
      go_ret2
      rw [hr, decide_eq_true hq]
      exact ⟨rfl, b4⟩
    | false =>
      have hq : ¬ itS v = s := fun h => by rw [h] at he; simp at he
      go_wp2
      go_ret2
      rw [hr, decide_eq_false hq]
      exact ⟨rfl, b4⟩
  | _ =>
    have hr : readDecB s = (0, false) := by unfold readDecB; rw [hp]
    have pc : Calls Tryd.prog 26 #[.string s, .int .i64 10, .int .i64 64] w fun e w' => ∃ t x, e = .returned (.tuple #[.int .i64 0, .iface t x]) ∧ Below w.heap.size w w' := (Any.strconv_ParseInt_10_at64_syntax layPInt s (by omega) hp _ w e1 (.inr ⟨t1, p1, rfl⟩)).mono fun e w' ⟨N, h1, _, _, h2⟩ => ⟨_, _, h1, h2⟩
    go_wp2_with (go_at_call 26; refine pc.mono ?_)
    rintro e w2 ⟨t, x, rfl, b3⟩
    go_wp2
    go_ret2
    rw [hr]
    exact ⟨rfl, b3⟩
end

section
open Go.Shelf Go.RowKit
theorem hasReadDec : HasBody Tryd.prog 14 := ⟨Tryd.f14, _, Tryd.func14, rfl, rfl⟩
theorem repN_tupB {X : Nat → Prop} {B : Nat} {w : World} {n : Int} {b : Bool} : RepN X B w (.tup [iv n, bv b]) (.tuple #[.int .i64 n, .bool b]) := by
  refine ⟨RM.none, (fun o io e => by cases e), fun base => ⟨(fun o io e => by cases e), fun H _ => ?_⟩⟩
  have hs : sh base RM.none = RM.none := by
    funext o
    unfold sh RM.none
    split <;> rfl
  rw [hs]
  refine ⟨⟨fun o io e => (by cases e), fun o o' io io' e => (by cases e)⟩, ?_⟩
  exact .tup rfl fun i c v h1 h2 => by
    match i, h1, h2 with
    | 0, h1, h2 => cases h1; cases h2; exact .sc rfl
    | 1, h1, h2 => cases h1; cases h2; exact .sc rfl
theorem tt_impl_ReadDecimal : PureOK Tryd.prog n_impl_ReadDecimal (C1 (fun c : Int × Bool => AV.tup [enc c.1, enc c.2]) t_impl_ReadDecimal) := by
  intro ds r hf X w vs hg hn hvs
  obtain ⟨s, z, rfl, ht, rfl⟩ := c1_inv hf
  obtain ⟨v, rfl⟩ := arr_one hn
  cases rep_svB (hvs 0 _ v rfl rfl)
  unfold t_impl_ReadDecimal at ht
  cases c : decide (s.size ≤ 4294967000) with
  | false => rw [c] at ht; cases ht
  | true =>
    rw [c] at ht
    cases ht
    refine callsB0 hasReadDec ((readDecWalk s (of_decide_eq_true c) w hg).mono fun e w' ⟨h1, h2⟩ => ⟨_, h1, belowD0 h2, repN_tupB⟩)
end

def t_internal_stringslite_HasSuffix (s_ : ByteArray) (suffix_ : ByteArray) : Option Bool :=
  obind (bif decide ((suffix_.size : Int) ≤ (s_.size : Int)) then (obind (subB s_ (some (wr ((s_.size : Int) - (suffix_.size : Int)))) none) fun s2 => some (decide (s2 = suffix_))) else some false) fun c3 =>
  some (bif decide ((suffix_.size : Int) ≤ (s_.size : Int)) then c3 else false)

theorem ts_internal_stringslite_HasSuffix (env : Nat → Contract)  (s_ : ByteArray) (suffix_ : ByteArray) : Sim (denFn Tryd.prog env n_internal_stringslite_HasSuffix [sv s_, sv suffix_] []) (t_internal_stringslite_HasSuffix s_ suffix_) fun c p => release p.2 depth p.1 = some ((fun c : Bool => enc c) c) := by
  have O := Hold.nil []
  generalize hB : (⟨[], []⟩ : Base) = B at O
  clear hB
  rw [e_internal_stringslite_HasSuffix]
  unfold t_internal_stringslite_HasSuffix
  refine sim_let (v := iv (s_.size : Int)) rfl ?_
  refine sim_let (v := iv (suffix_.size : Int)) rfl ?_
  refine sim_let (v := bv (decide ((suffix_.size : Int) ≤ (s_.size : Int)))) (aBin_geq _ _) ?_
  refine sim_guardT (e := bv) (fun hb1 => ?_) (fun c3 => ?_)
  · refine sim_let (v := iv (s_.size : Int)) rfl ?_
    refine sim_let (v := iv (suffix_.size : Int)) rfl ?_
    refine sim_let (v := iv (wr ((s_.size : Int) - (suffix_.size : Int)))) (aBin_sub _ _) ?_
    refine sim_subB10 (fun s2 => ?_)
    refine sim_let (v := bv (decide (s2 = suffix_))) (aCmp_eqS _ _) ?_
    exact sim_ret rfl
  · refine sim_let (v := bv (bif decide ((suffix_.size : Int) ≤ (s_.size : Int)) then c3 else false)) (pick_b _ _ _) ?_
    exact sim_ret (release_plain (by rfl) _)
theorem tt_internal_stringslite_HasSuffix : PureOK Tryd.prog n_internal_stringslite_HasSuffix (C2 (fun c : Bool => enc c) t_internal_stringslite_HasSuffix) := pureC2 E0 mixed hb_internal_stringslite_HasSuffix fun s_ suffix_ => ts_internal_stringslite_HasSuffix _  s_ suffix_

def t_strings_HasSuffix (s_ : ByteArray) (suffix_ : ByteArray) : Option Bool :=
  obind (t_internal_stringslite_HasSuffix s_ suffix_) fun c1 =>
  some c1

theorem ts_strings_HasSuffix (env : Nat → Contract) (he_internal_stringslite_HasSuffix : env n_internal_stringslite_HasSuffix = .pure (C2 (fun c : Bool => enc c) t_internal_stringslite_HasSuffix)) (s_ : ByteArray) (suffix_ : ByteArray) : Sim (denFn Tryd.prog env n_strings_HasSuffix [sv s_, sv suffix_] []) (t_strings_HasSuffix s_ suffix_) fun c p => release p.2 depth p.1 = some ((fun c : Bool => enc c) c) := by
  have O := Hold.nil []
  generalize hB : (⟨[], []⟩ : Base) = B at O
  clear hB
  rw [e_strings_HasSuffix]
  unfold t_strings_HasSuffix
  refine sim_call2 he_internal_stringslite_HasSuffix (snapD_str _ _) (snapD_str _ _) (fun c1 => ?_)
  refine sim_let2 (hand_plain (by rfl) _ _) ?_
  exact sim_ret (release_plain (by rfl) _)
theorem tt_strings_HasSuffix : PureOK Tryd.prog n_strings_HasSuffix (C2 (fun c : Bool => enc c) t_strings_HasSuffix) := pureC2 (Econs tt_internal_stringslite_HasSuffix E0) mixed hb_strings_HasSuffix fun s_ suffix_ => ts_strings_HasSuffix _ (by simp [envL]) s_ suffix_

def t_internal_stringslite_TrimSuffix (s_ : ByteArray) (suffix_ : ByteArray) : Option ByteArray :=
  obind (t_internal_stringslite_HasSuffix s_ suffix_) fun c1 =>
  bif c1 then
    obind (subB s_ none (some (wr ((s_.size : Int) - (suffix_.size : Int))))) fun s3 =>
    some s3
  else
    some s_

theorem ts_internal_stringslite_TrimSuffix (env : Nat → Contract) (he_internal_stringslite_HasSuffix : env n_internal_stringslite_HasSuffix = .pure (C2 (fun c : Bool => enc c) t_internal_stringslite_HasSuffix)) (s_ : ByteArray) (suffix_ : ByteArray) : Sim (denFn Tryd.prog env n_internal_stringslite_TrimSuffix [sv s_, sv suffix_] []) (t_internal_stringslite_TrimSuffix s_ suffix_) fun c p => release p.2 depth p.1 = some ((fun c : ByteArray => enc c) c) := by
  have O := Hold.nil []
  generalize hB : (⟨[], []⟩ : Base) = B at O
  clear hB
  rw [e_internal_stringslite_TrimSuffix]
  unfold t_internal_stringslite_TrimSuffix
  refine sim_call2 he_internal_stringslite_HasSuffix (snapD_str _ _) (snapD_str _ _) (fun c1 => ?_)
  refine sim_let2 (hand_plain (by rfl) _ _) ?_
  refine sim_cond (fun c2 => ?_) (fun c2 => ?_)
  · refine sim_let (v := iv (s_.size : Int)) rfl ?_
    refine sim_let (v := iv (suffix_.size : Int)) rfl ?_
    refine sim_let (v := iv (wr ((s_.size : Int) - (suffix_.size : Int)))) (aBin_sub _ _) ?_
    refine sim_subB01 (fun s3 => ?_)
    exact sim_ret (release_plain (by rfl) _)
  · exact sim_ret (release_plain (by rfl) _)
theorem tt_internal_stringslite_TrimSuffix : PureOK Tryd.prog n_internal_stringslite_TrimSuffix (C2 (fun c : ByteArray => enc c) t_internal_stringslite_TrimSuffix) := pureC2 (Econs tt_internal_stringslite_HasSuffix E0) mixed hb_internal_stringslite_TrimSuffix fun s_ suffix_ => ts_internal_stringslite_TrimSuffix _ (by simp [envL]) s_ suffix_

def t_strings_TrimSuffix (s_ : ByteArray) (suffix_ : ByteArray) : Option ByteArray :=
  obind (t_internal_stringslite_TrimSuffix s_ suffix_) fun c1 =>
  some c1

theorem ts_strings_TrimSuffix (env : Nat → Contract) (he_internal_stringslite_TrimSuffix : env n_internal_stringslite_TrimSuffix = .pure (C2 (fun c : ByteArray => enc c) t_internal_stringslite_TrimSuffix)) (s_ : ByteArray) (suffix_ : ByteArray) : Sim (denFn Tryd.prog env n_strings_TrimSuffix [sv s_, sv suffix_] []) (t_strings_TrimSuffix s_ suffix_) fun c p => release p.2 depth p.1 = some ((fun c : ByteArray => enc c) c) := by
  have O := Hold.nil []
  generalize hB : (⟨[], []⟩ : Base) = B at O
  clear hB
  rw [e_strings_TrimSuffix]
  unfold t_strings_TrimSuffix
  refine sim_call2 he_internal_stringslite_TrimSuffix (snapD_str _ _) (snapD_str _ _) (fun c1 => ?_)
  refine sim_let2 (hand_plain (by rfl) _ _) ?_
  exact sim_ret (release_plain (by rfl) _)
theorem tt_strings_TrimSuffix : PureOK Tryd.prog n_strings_TrimSuffix (C2 (fun c : ByteArray => enc c) t_strings_TrimSuffix) := pureC2 (Econs tt_internal_stringslite_TrimSuffix E0) mixed hb_strings_TrimSuffix fun s_ suffix_ => ts_strings_TrimSuffix _ (by simp [envL]) s_ suffix_

def t_impl_linesOf (s_ : ByteArray) : Option ((Sl ByteArray) × Bool) :=
  bif decide (s_ = (⟨#[]⟩ : ByteArray)) then
    some ((none : Sl ByteArray), true)
  else
    obind (t_strings_HasSuffix s_ (⟨#[10]⟩ : ByteArray)) fun c2 =>
    bif !c2 then
      some ((none : Sl ByteArray), false)
    else
      obind (t_strings_TrimSuffix s_ (⟨#[10]⟩ : ByteArray)) fun c4 =>
      obind (splitO c4 (⟨#[10]⟩ : ByteArray)) fun c5 =>
      some (c5, true)

theorem ts_impl_linesOf (env : Nat → Contract) (he_strings_HasSuffix : env n_strings_HasSuffix = .pure (C2 (fun c : Bool => enc c) t_strings_HasSuffix)) (he_strings_Split : env n_strings_Split = .pure (C2 (fun c : Sl ByteArray => rS c) splitO)) (he_strings_TrimSuffix : env n_strings_TrimSuffix = .pure (C2 (fun c : ByteArray => enc c) t_strings_TrimSuffix)) (s_ : ByteArray) : Sim (denFn Tryd.prog env n_impl_linesOf [sv s_] []) (t_impl_linesOf s_) fun c p => release p.2 depth p.1 = some ((fun c : (Sl ByteArray) × Bool => AV.tup [rS c.1, enc c.2]) c) := by
  have O := Hold.nil []
  generalize hB : (⟨[], []⟩ : Base) = B at O
  clear hB
  rw [e_impl_linesOf]
  unfold t_impl_linesOf
  refine sim_let (v := bv (decide (s_ = (⟨#[]⟩ : ByteArray)))) (aCmp_eqS _ _) ?_
  refine sim_cond (fun c1 => ?_) (fun c1 => ?_)
  · exact sim_ret (release_plain (by rfl) _)
  · refine sim_call2 he_strings_HasSuffix (snapD_str _ _) (snapD_str _ _) (fun c2 => ?_)
    refine sim_let2 (hand_plain (by rfl) _ _) ?_
    refine sim_let (v := bv (!c2)) (aUn_not _) ?_
    refine sim_cond (fun c3 => ?_) (fun c3 => ?_)
    · exact sim_ret (release_plain (by rfl) _)
    · refine sim_call2 he_strings_TrimSuffix (snapD_str _ _) (snapD_str _ _) (fun c4 => ?_)
      refine sim_let2 (hand_plain (by rfl) _ _) ?_
      refine sim_call2 he_strings_Split (snapD_str _ _) (snapD_str _ _) (fun c5 => ?_)
      refine sim_hand (A := ByteArray) O (fun x7 h8 O9 => ?_)
      replace O9 : Hold B h8 [(x7, obS (c5 : Sl ByteArray))] := O9
      have O10 : Hold B h8 [(x7, obS (c5 : Sl ByteArray))] := O9.sel [0] (by decide) rfl
      exact sim_ret (release_of (by simp only [ids_tup, ids_aggD, ids_agg, ids_iv, ids_bv, ids_sv, ids_bt, ids_nilS, ids_enc, O10.idsD (A := ByteArray) (s := c5) 0 rfl, List.map_append, List.map_nil, List.flatMap_cons, List.flatMap_nil, List.append_nil, List.nil_append]; simpa only [List.flatMap_cons, List.flatMap_nil, List.append_nil, List.nil_append] using O10.nd2) (by simp only [rel_tup, rel_aggD, rel_agg, rel_iv, rel_bv, rel_sv, rel_bt, rel_nilS, rel_enc, O10.relD (A := ByteArray) (s := c5) 0 rfl, omapc, omapn, obind_sm] <;> rfl))
theorem tt_impl_linesOf : PureOK Tryd.prog n_impl_linesOf (C1 (fun c : (Sl ByteArray) × Bool => AV.tup [rS c.1, enc c.2]) t_impl_linesOf) := pureC1 (Econs tt_strings_HasSuffix (Econs tt_strings_Split (Econs tt_strings_TrimSuffix E0))) mixed hb_impl_linesOf fun s_ => ts_impl_linesOf _ (by simp [envL]) (by simp [envL]) (by simp [envL]) s_

def t_impl_wordsOf (s_ : ByteArray) : Option (Sl ByteArray) :=
  obind (splitO s_ (⟨#[32]⟩ : ByteArray)) fun c1 =>
  some c1

theorem ts_impl_wordsOf (env : Nat → Contract) (he_strings_Split : env n_strings_Split = .pure (C2 (fun c : Sl ByteArray => rS c) splitO)) (s_ : ByteArray) : Sim (denFn Tryd.prog env n_impl_wordsOf [sv s_] []) (t_impl_wordsOf s_) fun c p => release p.2 depth p.1 = some ((fun c : (Sl ByteArray) => rS c) c) := by
  have O := Hold.nil []
  generalize hB : (⟨[], []⟩ : Base) = B at O
  clear hB
  rw [e_impl_wordsOf]
  unfold t_impl_wordsOf
  refine sim_call2 he_strings_Split (snapD_str _ _) (snapD_str _ _) (fun c1 => ?_)
  refine sim_hand (A := ByteArray) O (fun x3 h4 O5 => ?_)
  replace O5 : Hold B h4 [(x3, obS (c1 : Sl ByteArray))] := O5
  exact sim_ret (O5.rel (A := ByteArray) (s := c1) 0 rfl)
theorem tt_impl_wordsOf : PureOK Tryd.prog n_impl_wordsOf (C1 (fun c : (Sl ByteArray) => rS c) t_impl_wordsOf) := pureC1 (Econs tt_strings_Split E0) mixed hb_impl_wordsOf fun s_ => ts_impl_wordsOf _ (by simp [envL]) s_

/-- A cell of four is written. -/
def put4 (i j v n : Int) : Int := bif decide (i = j) then v else n
theorem sim_idxArr {γ δ : Type} {o : Nat} {i : Int} {F : AV → Option γ} {G : Option δ} {Q : δ → γ → Prop} (K : ∀ m : Nat, i = (m : Int) → m < 4 → Sim (F (AV.ptr o 1 0 m)) G Q) : Sim (obind (aIndexArr 4 1 (AV.ptr o 1 0 0) (iv i)) F) (bif decide (0 ≤ i) && decide (i < 4) then G else none) Q := by
  by_cases c : 0 ≤ i ∧ i < 4
  · obtain ⟨m, rfl⟩ : ∃ m : Nat, i = (m : Int) := ⟨i.toNat, by omega⟩
    have hm : m < 4 := by omega
    have e : aIndexArr 4 1 (AV.ptr o 1 0 0) (iv (m : Int)) = some (AV.ptr o 1 0 m) := by
      unfold aIndexArr
      rw [show idx (iv (m : Int)) 4 = some m from idx_lt hm]
      show some (AV.ptr o 1 0 (0 + m * 1)) = _
      rw [Nat.zero_add, Nat.mul_one]
    rw [e, obind_sm, decide_eq_true c.1, decide_eq_true c.2]
    exact K m rfl hm
  · have e : (decide (0 ≤ i) && decide (i < 4)) = false := by
      rw [Bool.and_eq_false_iff, decide_eq_false_iff_not, decide_eq_false_iff_not]
      omega
    rw [e]
    exact sim_no
theorem splice4 {n0 n1 n2 n3 v i : Int} {m : Nat} (hi : i = (m : Int)) (hm : m < 4) : splice [iv n0, iv n1, iv n2, iv n3] m [iv v] = [iv (put4 i 0 v n0), iv (put4 i 1 v n1), iv (put4 i 2 v n2), iv (put4 i 3 v n3)] := by
  subst hi
  match m, hm with
  | 0, _ => rfl
  | 1, _ => rfl
  | 2, _ => rfl
  | 3, _ => rfl

def s1_impl_ReadSymbols (c44 : (Sl ByteArray)) : (Int × Int × Int × Int × Int) → Option (Sum (Int × Int × Int × Int × Int) (Int × Int × Int × Int)) := fun (w55, w56, w57, w58, w61) =>
  bif decide (w61 < 4) then
    obind (getI (c44.getD []) (wr (w61 + 1))) fun a85 =>
    obind (t_impl_ReadDecimal a85) fun c89 =>
    bif decide (0 ≤ w61) && decide (w61 < 4) then
      some (.inl ((put4 w61 0 c89.1 w55), (put4 w61 1 c89.1 w56), (put4 w61 2 c89.1 w57), (put4 w61 3 c89.1 w58), wr (w61 + 1)))
    else none
  else
    some (.inr (w55, w56, w57, w58))
def s0_impl_ReadSymbols (c1 : (Sl ByteArray) × Bool) : ((Sl Symbol) × Int) → Option (Sum ((Sl Symbol) × Int) (Sum (Sl Symbol) Bool)) := fun (w10, w13) =>
  bif decide (w13 < (((c1.1.getD []).length : Nat) : Int)) then
    obind (getI (c1.1.getD []) w13) fun a40 =>
    obind (t_impl_wordsOf a40) fun c44 =>
    bif !decide ((((c44.getD []).length : Nat) : Int) = 5) then
      some (.inr (.inr false))
    else
      obind (loopT (s1_impl_ReadSymbols c44) (0, 0, 0, 0, 0)) fun (q64, q65, q66, q67) =>
      obind (getI (c44.getD []) 0) fun a69 =>
      obind (appO w10 ([(⟨a69, ⟨q64, q65, q66, q67⟩⟩ : Symbol)] : List Symbol)) fun _ =>
      some (.inl ((appS w10 ([(⟨a69, ⟨q64, q65, q66, q67⟩⟩ : Symbol)] : List Symbol)), wr (w13 + 1)))
  else
    some (.inr (.inl w10))
def t_impl_ReadSymbols (s_ : ByteArray) : Option ((Sl Symbol) × Bool) :=
  obind (t_impl_linesOf s_) fun c1 =>
  bif !c1.2 then
    some ((none : Sl Symbol), false)
  else
    obind (loopT (s0_impl_ReadSymbols c1) ((none : Sl Symbol), 0)) fun qq101 => match qq101 with
    | (.inl q17) =>
        obind (t_impl_ValidSymbols q17) fun c24 =>
        obind (bif !c24 then some false else (obind (t_impl_SymbolsText q17) fun c26 => some (!decide (c26 = s_)))) fun c27 =>
        bif (bif !c24 then true else c27) then
          some ((none : Sl Symbol), false)
        else
          some (q17, true)
    | (.inr q34) =>
        some ((none : Sl Symbol), q34)

theorem tl1_impl_ReadSymbols (env : Nat → Contract) {B : Base} (he_impl_ReadDecimal : env n_impl_ReadDecimal = .pure (C1 (fun c : Int × Bool => AV.tup [enc c.1, enc c.2]) t_impl_ReadDecimal)) (he_impl_SymbolsText : env n_impl_SymbolsText = .pure (C1 (fun c : ByteArray => enc c) t_impl_SymbolsText)) (he_impl_ValidSymbols : env n_impl_ValidSymbols = .pure (C1 (fun c : Bool => enc c) t_impl_ValidSymbols)) (he_impl_linesOf : env n_impl_linesOf = .pure (C1 (fun c : (Sl ByteArray) × Bool => AV.tup [rS c.1, enc c.2]) t_impl_linesOf)) (he_impl_wordsOf : env n_impl_wordsOf = .pure (C1 (fun c : (Sl ByteArray) => rS c) t_impl_wordsOf)) (s_ : ByteArray) (c1 : (Sl ByteArray) × Bool) (x3 : AV) (z9 : AV) (w10 : Sl Symbol) (w13 : Int) (a40 : ByteArray) (m41 : Nat) (c44 : (Sl ByteArray)) (x46 : AV) (o51 : Nat)  {st : Int × Int × Int × Int × Int} {tm : TM} {h : Heap} (R : (fun (st : Int × Int × Int × Int × Int) tm h59 => match st with | (w55, w56, w57, w58, w61) => tm = ((sv s_) :: und :: AV.top :: AV.top :: x3 :: (bv c1.2) :: z9 :: und :: (sv a40) :: x46 :: (AV.ptr o51 1 0 0) :: AV.top :: (AV.tup [x3, bv c1.2]) :: (sv s_) :: (AV.tup [x3, bv c1.2]) :: x3 :: (bv c1.2) :: (bv c1.2) :: (bv (!c1.2)) :: x3 :: (iv (((c1.1.getD []).length : Nat) : Int)) :: (iv w13) :: (bv (decide (w13 < (((c1.1.getD []).length : Nat) : Int)))) :: (elp x3 m41 0) :: (sv a40) :: (sv a40) :: x46 :: x46 :: (iv (((c44.getD []).length : Nat) : Int)) :: (bv (!decide ((((c44.getD []).length : Nat) : Int) = 5))) :: (iv w61) :: AV.top :: AV.top :: AV.top :: AV.top :: AV.top :: AV.top :: AV.top :: AV.top :: AV.top :: AV.top :: AV.top :: AV.top :: AV.top :: AV.top :: AV.top :: AV.top :: AV.top :: AV.top :: AV.top :: AV.top :: AV.top :: AV.top :: AV.top :: AV.top :: AV.top :: AV.top :: AV.top :: AV.top :: AV.top :: AV.top :: AV.top :: und :: und :: und :: und :: und :: und :: und :: und :: und :: und :: []) ∧ Hold B h59 [(x3, obS (c1.1 : Sl ByteArray)), (z9, obS (w10 : Sl Symbol)), (x46, obS (c44 : Sl ByteArray)), (AV.ptr o51 1 0 0, .pt 4 [iv w55, iv w56, iv w57, iv w58])]) st tm h) : Sim (loopP hm1_impl_ReadSymbols xm1_impl_ReadSymbols (lb1_impl_ReadSymbols env) tm h) (loopT (s1_impl_ReadSymbols c44) st) (fun (q : Int × Int × Int × Int) (r : Res) => match q with | (q64, q65, q66, q67) => ∃ (z68 : AV) (h62 : Heap), r = (.exit 2, ((sv s_) :: und :: AV.top :: AV.top :: x3 :: (bv c1.2) :: z9 :: und :: (sv a40) :: x46 :: (AV.ptr o51 1 0 0) :: z68 :: (AV.tup [x3, bv c1.2]) :: (sv s_) :: (AV.tup [x3, bv c1.2]) :: x3 :: (bv c1.2) :: (bv c1.2) :: (bv (!c1.2)) :: x3 :: (iv (((c1.1.getD []).length : Nat) : Int)) :: (iv w13) :: (bv (decide (w13 < (((c1.1.getD []).length : Nat) : Int)))) :: (elp x3 m41 0) :: (sv a40) :: (sv a40) :: x46 :: x46 :: (iv (((c44.getD []).length : Nat) : Int)) :: (bv (!decide ((((c44.getD []).length : Nat) : Int) = 5))) :: AV.top :: AV.top :: AV.top :: AV.top :: AV.top :: AV.top :: AV.top :: AV.top :: AV.top :: AV.top :: AV.top :: AV.top :: AV.top :: AV.top :: AV.top :: AV.top :: AV.top :: AV.top :: AV.top :: AV.top :: AV.top :: AV.top :: AV.top :: AV.top :: AV.top :: AV.top :: AV.top :: AV.top :: AV.top :: AV.top :: AV.top :: AV.top :: und :: und :: und :: und :: und :: und :: und :: und :: und :: und :: []), h62) ∧ Hold B h62 [(x3, obS (c1.1 : Sl ByteArray)), (z9, obS (w10 : Sl Symbol)), (x46, obS (c44 : Sl ByteArray)), (AV.ptr o51 1 0 0, .pt 4 [iv q64, iv q65, iv q66, iv q67])]) := by
  refine loop_sim (Rel := fun (st : Int × Int × Int × Int × Int) tm h59 => match st with | (w55, w56, w57, w58, w61) => tm = ((sv s_) :: und :: AV.top :: AV.top :: x3 :: (bv c1.2) :: z9 :: und :: (sv a40) :: x46 :: (AV.ptr o51 1 0 0) :: AV.top :: (AV.tup [x3, bv c1.2]) :: (sv s_) :: (AV.tup [x3, bv c1.2]) :: x3 :: (bv c1.2) :: (bv c1.2) :: (bv (!c1.2)) :: x3 :: (iv (((c1.1.getD []).length : Nat) : Int)) :: (iv w13) :: (bv (decide (w13 < (((c1.1.getD []).length : Nat) : Int)))) :: (elp x3 m41 0) :: (sv a40) :: (sv a40) :: x46 :: x46 :: (iv (((c44.getD []).length : Nat) : Int)) :: (bv (!decide ((((c44.getD []).length : Nat) : Int) = 5))) :: (iv w61) :: AV.top :: AV.top :: AV.top :: AV.top :: AV.top :: AV.top :: AV.top :: AV.top :: AV.top :: AV.top :: AV.top :: AV.top :: AV.top :: AV.top :: AV.top :: AV.top :: AV.top :: AV.top :: AV.top :: AV.top :: AV.top :: AV.top :: AV.top :: AV.top :: AV.top :: AV.top :: AV.top :: AV.top :: AV.top :: AV.top :: AV.top :: und :: und :: und :: und :: und :: und :: und :: und :: und :: und :: []) ∧ Hold B h59 [(x3, obS (c1.1 : Sl ByteArray)), (z9, obS (w10 : Sl Symbol)), (x46, obS (c44 : Sl ByteArray)), (AV.ptr o51 1 0 0, .pt 4 [iv w55, iv w56, iv w57, iv w58])]) (fun st tm h59 R => ?_) R
  obtain ⟨w55, w56, w57, w58, w61⟩ := st
  obtain ⟨rfl, O60⟩ := R
  rw [e_lb1_impl_ReadSymbols]
  unfold s1_impl_ReadSymbols
  dsimp only
  refine sim_let (v := bv (decide (w61 < 4))) (aBin_lss _ _) ?_
  refine sim_cond (fun c84 => ?_) (fun c84 => ?_)
  · refine sim_let (v := iv (wr (w61 + 1))) (aBin_add _ _) ?_
    refine sim_get (O60.tab (A := ByteArray) (s := c44) 2 rfl) (fun m86 a85 hi87 hm88 => ?_)
    refine sim_let (v := sv a85) ((O60.tab (A := ByteArray) (s := c44) 2 rfl).ld hm88 false 1 0) ?_
    refine sim_call1 he_impl_ReadDecimal (snapD_str _ _) (fun c89 => ?_)
    refine sim_let2 (hand_plain (by rfl) _ _) ?_
    refine sim_let (v := iv c89.1) rfl ?_
    refine sim_let (v := bv c89.2) rfl ?_
    refine sim_idxArr (fun m90 hi91 hm92 => ?_)
    refine sim_store O60 3 (cs' := [iv (put4 w61 0 c89.1 w55), iv (put4 w61 1 c89.1 w56), iv (put4 w61 2 c89.1 w57), iv (put4 w61 3 c89.1 w58)]) rfl rfl (by show m90 + 1 ≤ 4; omega) rfl (splice4 hi91 hm92) (fun h93 O94 => ?_)
    replace O94 : Hold B h93 [(x3, obS (c1.1 : Sl ByteArray)), (z9, obS (w10 : Sl Symbol)), (x46, obS (c44 : Sl ByteArray)), (AV.ptr o51 1 0 0, .pt 4 [iv (put4 w61 0 c89.1 w55), iv (put4 w61 1 c89.1 w56), iv (put4 w61 2 c89.1 w57), iv (put4 w61 3 c89.1 w58)])] := O94
    refine sim_let (v := iv (wr (w61 + 1))) (aBin_add _ _) ?_
    exact sim_ret ⟨rfl, rfl, O94⟩
  · exact sim_ret ⟨nofun, _, _, rfl, O60⟩
theorem tl0_impl_ReadSymbols (env : Nat → Contract) {B : Base} (he_impl_ReadDecimal : env n_impl_ReadDecimal = .pure (C1 (fun c : Int × Bool => AV.tup [enc c.1, enc c.2]) t_impl_ReadDecimal)) (he_impl_SymbolsText : env n_impl_SymbolsText = .pure (C1 (fun c : ByteArray => enc c) t_impl_SymbolsText)) (he_impl_ValidSymbols : env n_impl_ValidSymbols = .pure (C1 (fun c : Bool => enc c) t_impl_ValidSymbols)) (he_impl_linesOf : env n_impl_linesOf = .pure (C1 (fun c : (Sl ByteArray) × Bool => AV.tup [rS c.1, enc c.2]) t_impl_linesOf)) (he_impl_wordsOf : env n_impl_wordsOf = .pure (C1 (fun c : (Sl ByteArray) => rS c) t_impl_wordsOf)) (s_ : ByteArray) (c1 : (Sl ByteArray) × Bool) (x3 : AV)  {st : (Sl Symbol) × Int} {tm : TM} {h : Heap} (R : (fun (st : (Sl Symbol) × Int) tm h11 => match st with | (w10, w13) => ∃ z9, tm = ((sv s_) :: und :: AV.top :: AV.top :: x3 :: (bv c1.2) :: z9 :: und :: AV.top :: AV.top :: AV.top :: AV.top :: (AV.tup [x3, bv c1.2]) :: (sv s_) :: (AV.tup [x3, bv c1.2]) :: x3 :: (bv c1.2) :: (bv c1.2) :: (bv (!c1.2)) :: x3 :: (iv (((c1.1.getD []).length : Nat) : Int)) :: (iv w13) :: AV.top :: AV.top :: AV.top :: AV.top :: AV.top :: AV.top :: AV.top :: AV.top :: AV.top :: AV.top :: AV.top :: AV.top :: AV.top :: AV.top :: AV.top :: AV.top :: AV.top :: AV.top :: AV.top :: AV.top :: AV.top :: AV.top :: AV.top :: AV.top :: AV.top :: AV.top :: AV.top :: AV.top :: AV.top :: AV.top :: AV.top :: AV.top :: AV.top :: AV.top :: AV.top :: AV.top :: AV.top :: AV.top :: AV.top :: AV.top :: und :: und :: und :: und :: und :: und :: und :: und :: und :: und :: []) ∧ Hold B h11 [(x3, obS (c1.1 : Sl ByteArray)), (z9, obS (w10 : Sl Symbol))]) st tm h) : Sim (loopP hm0_impl_ReadSymbols xm0_impl_ReadSymbols (lb0_impl_ReadSymbols env) tm h) (loopT (s0_impl_ReadSymbols c1) st) (fun (q : Sum (Sl Symbol) Bool) (r : Res) => match q with | .inl q17 => ∃ (z16 : AV) (z18 : AV) (z19 : AV) (z20 : AV) (z21 : AV) (z22 : AV) (z23 : AV) (h14 : Heap), r = (.exit 0, ((sv s_) :: und :: z18 :: z19 :: x3 :: (bv c1.2) :: z16 :: und :: z20 :: z21 :: z22 :: z23 :: (AV.tup [x3, bv c1.2]) :: (sv s_) :: (AV.tup [x3, bv c1.2]) :: x3 :: (bv c1.2) :: (bv c1.2) :: (bv (!c1.2)) :: x3 :: (iv (((c1.1.getD []).length : Nat) : Int)) :: AV.top :: AV.top :: AV.top :: AV.top :: AV.top :: AV.top :: AV.top :: AV.top :: AV.top :: AV.top :: AV.top :: AV.top :: AV.top :: AV.top :: AV.top :: AV.top :: AV.top :: AV.top :: AV.top :: AV.top :: AV.top :: AV.top :: AV.top :: AV.top :: AV.top :: AV.top :: AV.top :: AV.top :: AV.top :: AV.top :: AV.top :: AV.top :: AV.top :: AV.top :: AV.top :: AV.top :: AV.top :: AV.top :: AV.top :: AV.top :: AV.top :: und :: und :: und :: und :: und :: und :: und :: und :: und :: und :: []), h14) ∧ Hold B h14 [(x3, obS (c1.1 : Sl ByteArray)), (z16, obS (q17 : Sl Symbol))] | .inr q34 => ∃ (q33 : Sl Symbol) (q35 : ByteArray) (z32 : AV) (z36 : AV) (z37 : AV) (z38 : AV) (h30 : Heap), r = (.ret, ((sv s_) :: und :: nilS :: (bv q34) :: x3 :: (bv c1.2) :: z32 :: und :: (sv q35) :: z36 :: z37 :: z38 :: (AV.tup [x3, bv c1.2]) :: (sv s_) :: (AV.tup [x3, bv c1.2]) :: x3 :: (bv c1.2) :: (bv c1.2) :: (bv (!c1.2)) :: x3 :: (iv (((c1.1.getD []).length : Nat) : Int)) :: AV.top :: AV.top :: AV.top :: AV.top :: AV.top :: AV.top :: AV.top :: AV.top :: AV.top :: AV.top :: AV.top :: AV.top :: AV.top :: AV.top :: AV.top :: AV.top :: AV.top :: AV.top :: AV.top :: AV.top :: AV.top :: AV.top :: AV.top :: AV.top :: AV.top :: AV.top :: AV.top :: AV.top :: AV.top :: AV.top :: AV.top :: AV.top :: AV.top :: AV.top :: AV.top :: AV.top :: AV.top :: AV.top :: AV.top :: AV.top :: AV.top :: und :: und :: und :: und :: und :: und :: und :: und :: und :: und :: []), h30) ∧ Hold B h30 [(x3, obS (c1.1 : Sl ByteArray)), (z32, obS (q33 : Sl Symbol))]) := by
  refine loop_sim (Rel := fun (st : (Sl Symbol) × Int) tm h11 => match st with | (w10, w13) => ∃ z9, tm = ((sv s_) :: und :: AV.top :: AV.top :: x3 :: (bv c1.2) :: z9 :: und :: AV.top :: AV.top :: AV.top :: AV.top :: (AV.tup [x3, bv c1.2]) :: (sv s_) :: (AV.tup [x3, bv c1.2]) :: x3 :: (bv c1.2) :: (bv c1.2) :: (bv (!c1.2)) :: x3 :: (iv (((c1.1.getD []).length : Nat) : Int)) :: (iv w13) :: AV.top :: AV.top :: AV.top :: AV.top :: AV.top :: AV.top :: AV.top :: AV.top :: AV.top :: AV.top :: AV.top :: AV.top :: AV.top :: AV.top :: AV.top :: AV.top :: AV.top :: AV.top :: AV.top :: AV.top :: AV.top :: AV.top :: AV.top :: AV.top :: AV.top :: AV.top :: AV.top :: AV.top :: AV.top :: AV.top :: AV.top :: AV.top :: AV.top :: AV.top :: AV.top :: AV.top :: AV.top :: AV.top :: AV.top :: AV.top :: und :: und :: und :: und :: und :: und :: und :: und :: und :: und :: []) ∧ Hold B h11 [(x3, obS (c1.1 : Sl ByteArray)), (z9, obS (w10 : Sl Symbol))]) (fun st tm h11 R => ?_) R
  obtain ⟨w10, w13⟩ := st
  obtain ⟨z9, rfl, O12⟩ := R
  rw [e_lb0_impl_ReadSymbols]
  unfold s0_impl_ReadSymbols
  dsimp only
  refine sim_let (v := bv (decide (w13 < (((c1.1.getD []).length : Nat) : Int)))) (aBin_lss _ _) ?_
  refine sim_cond (fun c39 => ?_) (fun c39 => ?_)
  · refine sim_get (O12.tab (A := ByteArray) (s := c1.1) 0 rfl) (fun m41 a40 hi42 hm43 => ?_)
    refine sim_let (v := sv a40) ((O12.tab (A := ByteArray) (s := c1.1) 0 rfl).ld hm43 false 1 0) ?_
    refine sim_call1 he_impl_wordsOf (snapD_str _ _) (fun c44 => ?_)
    refine sim_hand (A := ByteArray) O12 (fun x46 h47 O48 => ?_)
    replace O48 : Hold B h47 [(x3, obS (c1.1 : Sl ByteArray)), (z9, obS (w10 : Sl Symbol)), (x46, obS (c44 : Sl ByteArray))] := O48
    refine sim_let (v := iv (((c44.getD []).length : Nat) : Int)) (O48.tab (A := ByteArray) (s := c44) 2 rfl).len ?_
    refine sim_let (v := bv (!decide ((((c44.getD []).length : Nat) : Int) = 5))) (aCmp_ne _ _) ?_
    refine sim_cond (fun c49 => ?_) (fun c49 => ?_)
    · have O50 : Hold B h47 [(x3, obS (c1.1 : Sl ByteArray)), (z9, obS (w10 : Sl Symbol))] := O48.sel [0, 1] (by decide) rfl
      exact sim_ret ⟨nofun, _, _, _, _, _, _, _, rfl, O50⟩
    · refine sim_box O48 (cs := [iv 0, iv 0, iv 0, iv 0]) (by first | rfl | simp) (fun o51 h52 O53 => ?_)
      replace O53 : Hold B h52 [(x3, obS (c1.1 : Sl ByteArray)), (z9, obS (w10 : Sl Symbol)), (x46, obS (c44 : Sl ByteArray)), (AV.ptr o51 1 0 0, .pt 4 [iv 0, iv 0, iv 0, iv 0])] := O53
      refine sim_bind ((tl1_impl_ReadSymbols env he_impl_ReadDecimal he_impl_SymbolsText he_impl_ValidSymbols he_impl_linesOf he_impl_wordsOf s_ c1 x3 z9 w10 w13 a40 m41 c44 x46 o51) ⟨rfl, O53⟩) (fun qq98 r hq => ?_)
      obtain ⟨q64, q65, q66, q67⟩ := qq98
      obtain ⟨z68, h62, rfl, O63⟩ := hq
      rw [e_lk1x2_impl_ReadSymbols]
      refine sim_get (O63.tab (A := ByteArray) (s := c44) 2 rfl) (fun m70 a69 hi71 hm72 => ?_)
      refine sim_let (v := sv a69) ((O63.tab (A := ByteArray) (s := c44) 2 rfl).ld hm72 false 1 0) ?_
      refine sim_let (v := AV.ptr o51 1 0 0) rfl ?_
      refine sim_let (v := iv q64) (O63.ld 3 rfl false 1 0) ?_
      refine sim_let (v := AV.ptr o51 1 0 1) rfl ?_
      refine sim_let (v := iv q65) (O63.ld 3 rfl false 1 1) ?_
      refine sim_let (v := AV.ptr o51 1 0 2) rfl ?_
      refine sim_let (v := iv q66) (O63.ld 3 rfl false 1 2) ?_
      refine sim_let (v := AV.ptr o51 1 0 3) rfl ?_
      refine sim_let (v := iv q67) (O63.ld 3 rfl false 1 3) ?_
      refine sim_let (v := AV.agg [iv q64, iv q65, iv q66, iv q67]) (by first | rfl | simp [aBuild, aFill, splice]) ?_
      refine sim_let (v := AV.agg [sv a69, iv q64, iv q65, iv q66, iv q67]) (by first | rfl | simp [aBuild, aFill, splice]) ?_
      refine sim_build (A := Symbol) O63 ([(⟨a69, ⟨q64, q65, q66, q67⟩⟩ : Symbol)] : List Symbol) rfl (by first | rfl | simp [aFillRows, zrows]) rfl (fun x73 h74 O75 => ?_)
      replace O75 : Hold B h74 [(x3, obS (c1.1 : Sl ByteArray)), (z9, obS (w10 : Sl Symbol)), (x46, obS (c44 : Sl ByteArray)), (AV.ptr o51 1 0 0, .pt 4 [iv q64, iv q65, iv q66, iv q67]), (x73, obS ((some ([(⟨a69, ⟨q64, q65, q66, q67⟩⟩ : Symbol)] : List Symbol)) : Sl Symbol))] := O75
      refine sim_append (A := Symbol) (s := w10) O75 1 ([(⟨a69, ⟨q64, q65, q66, q67⟩⟩ : Symbol)] : List Symbol) rfl (O75.src (A := Symbol) (s := (some ([(⟨a69, ⟨q64, q65, q66, q67⟩⟩ : Symbol)] : List Symbol))) 4 rfl) (by decide) (fun x78 h79 O80 => ?_)
      replace O80 : Hold B h79 [(x3, obS (c1.1 : Sl ByteArray)), (x78, obS ((appS w10 ([(⟨a69, ⟨q64, q65, q66, q67⟩⟩ : Symbol)] : List Symbol)) : Sl Symbol)), (x46, obS (c44 : Sl ByteArray)), (AV.ptr o51 1 0 0, .pt 4 [iv q64, iv q65, iv q66, iv q67]), (x73, obS ((some ([(⟨a69, ⟨q64, q65, q66, q67⟩⟩ : Symbol)] : List Symbol)) : Sl Symbol))] := O80
      have O82 : Hold B h79 [(x3, obS (c1.1 : Sl ByteArray)), (x78, obS ((appS w10 ([(⟨a69, ⟨q64, q65, q66, q67⟩⟩ : Symbol)] : List Symbol)) : Sl Symbol)), (x46, obS (c44 : Sl ByteArray)), (AV.ptr o51 1 0 0, .pt 4 [iv q64, iv q65, iv q66, iv q67])] := O80.sel [0, 1, 2, 3] (by decide) rfl
      refine sim_let (v := iv (wr (w13 + 1))) (aBin_add _ _) ?_
      have O83 : Hold B h79 [(x3, obS (c1.1 : Sl ByteArray)), (x78, obS ((appS w10 ([(⟨a69, ⟨q64, q65, q66, q67⟩⟩ : Symbol)] : List Symbol)) : Sl Symbol))] := O82.sel [0, 1] (by decide) rfl
      exact sim_ret ⟨rfl, _, rfl, O83⟩
  · exact sim_ret ⟨nofun, _, _, _, _, _, _, _, _, rfl, O12⟩
theorem ts_impl_ReadSymbols (env : Nat → Contract) (he_impl_ReadDecimal : env n_impl_ReadDecimal = .pure (C1 (fun c : Int × Bool => AV.tup [enc c.1, enc c.2]) t_impl_ReadDecimal)) (he_impl_SymbolsText : env n_impl_SymbolsText = .pure (C1 (fun c : ByteArray => enc c) t_impl_SymbolsText)) (he_impl_ValidSymbols : env n_impl_ValidSymbols = .pure (C1 (fun c : Bool => enc c) t_impl_ValidSymbols)) (he_impl_linesOf : env n_impl_linesOf = .pure (C1 (fun c : (Sl ByteArray) × Bool => AV.tup [rS c.1, enc c.2]) t_impl_linesOf)) (he_impl_wordsOf : env n_impl_wordsOf = .pure (C1 (fun c : (Sl ByteArray) => rS c) t_impl_wordsOf)) (s_ : ByteArray) : Sim (denFn Tryd.prog env n_impl_ReadSymbols [sv s_] []) (t_impl_ReadSymbols s_) fun c p => release p.2 depth p.1 = some ((fun c : (Sl Symbol) × Bool => AV.tup [rS c.1, enc c.2]) c) := by
  have O := Hold.nil []
  generalize hB : (⟨[], []⟩ : Base) = B at O
  clear hB
  rw [e_impl_ReadSymbols]
  unfold t_impl_ReadSymbols
  refine sim_call1 he_impl_linesOf (snapD_str _ _) (fun c1 => ?_)
  refine sim_hand1 O (c1.1 : Sl ByteArray) (fun z1 => AV.tup [z1, bv c1.2]) (by intro b; simp only [mat_tup, mat_aggD, mat_agg, matLc, matLn, mat_iv, mat_bv, mat_sv, mat_bt, mat_nilS, mat_rS, List.append_nil, List.nil_append, List.length_nil, Nat.add_zero]) (by simp only [noF_tup, noF_aggD, noF_agg, noF_iv, noF_bv, noF_sv, noF_bt, noF_nilS, noF_rS, List.all_cons, List.all_nil, Bool.and_self]) (fun x3 h4 O5 => ?_)
  replace O5 : Hold B h4 [(x3, obS (c1.1 : Sl ByteArray))] := O5
  refine sim_let (v := x3) rfl ?_
  refine sim_let (v := bv c1.2) rfl ?_
  refine sim_let (v := bv (!c1.2)) (aUn_not _) ?_
  refine sim_cond (fun c6 => ?_) (fun c6 => ?_)
  · exact sim_ret (release_plain (by rfl) _)
  · refine sim_let (v := iv (((c1.1.getD []).length : Nat) : Int)) (O5.tab (A := ByteArray) (s := c1.1) 0 rfl).len ?_
    have O7 : Hold B h4 [(x3, obS (c1.1 : Sl ByteArray)), (nilS, obS ((none : Sl Symbol) : Sl Symbol))] := O5.addnil
    refine sim_bind ((tl0_impl_ReadSymbols env he_impl_ReadDecimal he_impl_SymbolsText he_impl_ValidSymbols he_impl_linesOf he_impl_wordsOf s_ c1 x3) ⟨_, rfl, O7⟩) (fun qq101 r hq => ?_)
    rcases qq101 with q17 | q34
    · obtain ⟨z16, z18, z19, z20, z21, z22, z23, h14, rfl, O15⟩ := hq
      rw [e_lk0x0_impl_ReadSymbols]
      refine sim_call1 he_impl_ValidSymbols ((O15.tab (A := Symbol) (s := q17) 1 rfl).snap) (fun c24 => ?_)
      refine sim_let2 (hand_plain (by rfl) _ _) ?_
      refine sim_let (v := bv (!c24)) (aUn_not _) ?_
      refine sim_guardF (e := bv) (fun hb25 => ?_) (fun c27 => ?_)
      · refine sim_call1 he_impl_SymbolsText ((O15.tab (A := Symbol) (s := q17) 1 rfl).snap) (fun c26 => ?_)
        refine sim_let2 (hand_plain (by rfl) _ _) ?_
        refine sim_let (v := bv (!decide (c26 = s_))) (aCmp_neS _ _) ?_
        exact sim_ret rfl
      · refine sim_let (v := bv (bif !c24 then true else c27)) (pick_b' _ _ _) ?_
        refine sim_cond (fun c28 => ?_) (fun c28 => ?_)
        · exact sim_ret (release_plain (by rfl) _)
        · have O29 : Hold B h14 [(z16, obS (q17 : Sl Symbol))] := O15.sel [1] (by decide) rfl
          exact sim_ret (release_of (by simp only [ids_tup, ids_aggD, ids_agg, ids_iv, ids_bv, ids_sv, ids_bt, ids_nilS, ids_enc, O29.idsD (A := Symbol) (s := q17) 0 rfl, List.map_append, List.map_nil, List.flatMap_cons, List.flatMap_nil, List.append_nil, List.nil_append]; simpa only [List.flatMap_cons, List.flatMap_nil, List.append_nil, List.nil_append] using O29.nd2) (by simp only [rel_tup, rel_aggD, rel_agg, rel_iv, rel_bv, rel_sv, rel_bt, rel_nilS, rel_enc, O29.relD (A := Symbol) (s := q17) 0 rfl, omapc, omapn, obind_sm] <;> rfl))
    · obtain ⟨q33, q35, z32, z36, z37, z38, h30, rfl, O31⟩ := hq
      rw [e_lk0r_impl_ReadSymbols]
      exact sim_ret (release_plain (by rfl) _)
theorem tt_impl_ReadSymbols : PureOK Tryd.prog n_impl_ReadSymbols (C1 (fun c : (Sl Symbol) × Bool => AV.tup [rS c.1, enc c.2]) t_impl_ReadSymbols) := pureC1 (Econs tt_impl_ReadDecimal (Econs tt_impl_SymbolsText (Econs tt_impl_ValidSymbols (Econs tt_impl_linesOf (Econs tt_impl_wordsOf E0))))) mixed hb_impl_ReadSymbols fun s_ => ts_impl_ReadSymbols _ (by simp [envL]) (by simp [envL]) (by simp [envL]) (by simp [envL]) (by simp [envL]) s_

def t_laws_FnExactReadSymbols (aS_ : ByteArray) : Option Bool :=
  bif decide (1048576 < (aS_.size : Int)) then
    some true
  else
    obind (t_spec_ReadSymbols aS_) fun c2 =>
    obind (t_impl_ReadSymbols aS_) fun c7 =>
    obind (t_laws_eqSymbolS c7.1 c2.1) fun c12 =>
    obind (bif !c12 then some false else (some (!(c7.2 == c2.2)))) fun c14 =>
    bif (bif !c12 then true else c14) then
      some false
    else
      obind (t_laws_markSymbolS c7.1 1) fun (r16, w17) =>
      obind (t_laws_heldSymbolS w17 1) fun c20 =>
      bif decide (c20 < 0) then
        some false
      else
        bif !decide (c20 = r16) then
          some false
        else
          obind (t_impl_ReadSymbols aS_) fun c23 =>
          obind (t_laws_eqSymbolS c23.1 c2.1) fun c28 =>
          obind (bif !c28 then some false else (some (!(c23.2 == c2.2)))) fun c30 =>
          bif (bif !c28 then true else c30) then
            some false
          else
            obind (t_laws_heldSymbolS w17 1) fun c32 =>
            bif decide (c32 < 0) then
              some false
            else
              bif !decide (c32 = r16) then
                some false
              else
                some true

theorem ts_laws_FnExactReadSymbols (env : Nat → Contract) (he_impl_ReadSymbols : env n_impl_ReadSymbols = .pure (C1 (fun c : (Sl Symbol) × Bool => AV.tup [rS c.1, enc c.2]) t_impl_ReadSymbols)) (he_laws_eqSymbolS : env n_laws_eqSymbolS = .pure (C2 (fun c : Bool => enc c) t_laws_eqSymbolS)) (he_laws_heldSymbolS : env n_laws_heldSymbolS = .pure (C2 (fun c : Int => enc c) t_laws_heldSymbolS)) (he_laws_markSymbolS : env n_laws_markSymbolS = .gen (denFn Tryd.prog ev_laws_markSymbolS n_laws_markSymbolS)) (he_spec_ReadSymbols : env n_spec_ReadSymbols = .pure (C1 (fun c : (Sl Symbol) × Bool => AV.tup [rS c.1, enc c.2]) t_spec_ReadSymbols)) (aS_ : ByteArray) : Sim (denFn Tryd.prog env n_laws_FnExactReadSymbols [sv aS_] []) (t_laws_FnExactReadSymbols aS_) fun c p => release p.2 depth p.1 = some ((fun c : Bool => enc c) c) := by
  have O := Hold.nil []
  generalize hB : (⟨[], []⟩ : Base) = B at O
  clear hB
  rw [e_laws_FnExactReadSymbols]
  unfold t_laws_FnExactReadSymbols
  refine sim_let (v := iv (aS_.size : Int)) rfl ?_
  refine sim_let (v := bv (decide (1048576 < (aS_.size : Int)))) (aBin_gtr _ _) ?_
  refine sim_cond (fun c1 => ?_) (fun c1 => ?_)
  · exact sim_ret (release_plain (by rfl) _)
  · refine sim_call1 he_spec_ReadSymbols (snapD_str _ _) (fun c2 => ?_)
    refine sim_hand1 O (c2.1 : Sl Symbol) (fun z1 => AV.tup [z1, bv c2.2]) (by intro b; simp only [mat_tup, mat_aggD, mat_agg, matLc, matLn, mat_iv, mat_bv, mat_sv, mat_bt, mat_nilS, mat_rS, List.append_nil, List.nil_append, List.length_nil, Nat.add_zero]) (by simp only [noF_tup, noF_aggD, noF_agg, noF_iv, noF_bv, noF_sv, noF_bt, noF_nilS, noF_rS, List.all_cons, List.all_nil, Bool.and_self]) (fun x4 h5 O6 => ?_)
    replace O6 : Hold B h5 [(x4, obS (c2.1 : Sl Symbol))] := O6
    refine sim_let (v := x4) rfl ?_
    refine sim_let (v := bv c2.2) rfl ?_
    refine sim_call1 he_impl_ReadSymbols (snapD_str _ _) (fun c7 => ?_)
    refine sim_hand1 O6 (c7.1 : Sl Symbol) (fun z1 => AV.tup [z1, bv c7.2]) (by intro b; simp only [mat_tup, mat_aggD, mat_agg, matLc, matLn, mat_iv, mat_bv, mat_sv, mat_bt, mat_nilS, mat_rS, List.append_nil, List.nil_append, List.length_nil, Nat.add_zero]) (by simp only [noF_tup, noF_aggD, noF_agg, noF_iv, noF_bv, noF_sv, noF_bt, noF_nilS, noF_rS, List.all_cons, List.all_nil, Bool.and_self]) (fun x9 h10 O11 => ?_)
    replace O11 : Hold B h10 [(x4, obS (c2.1 : Sl Symbol)), (x9, obS (c7.1 : Sl Symbol))] := O11
    refine sim_let (v := x9) rfl ?_
    refine sim_let (v := bv c7.2) rfl ?_
    refine sim_call2 he_laws_eqSymbolS ((O11.tab (A := Symbol) (s := c7.1) 1 rfl).snap) ((O11.tab (A := Symbol) (s := c2.1) 0 rfl).snap) (fun c12 => ?_)
    refine sim_let2 (hand_plain (by rfl) _ _) ?_
    refine sim_let (v := bv (!c12)) (aUn_not _) ?_
    refine sim_guardF (e := bv) (fun hb13 => ?_) (fun c14 => ?_)
    · refine sim_let (v := bv (!(c7.2 == c2.2))) (aCmp_neB _ _) ?_
      exact sim_ret rfl
    · refine sim_let (v := bv (bif !c12 then true else c14)) (pick_b' _ _ _) ?_
      refine sim_cond (fun c15 => ?_) (fun c15 => ?_)
      · exact sim_ret (release_plain (by rfl) _)
      · refine sim_mark (A := Symbol) O11 1 rfl he_laws_markSymbolS mk_laws_markSymbolS (fun r16 w17 h18 O19 => ?_)
        replace O19 : Hold B h18 [(x4, obS (c2.1 : Sl Symbol)), (x9, obS (w17 : Sl Symbol))] := O19
        refine sim_call2 he_laws_heldSymbolS ((O19.tab (A := Symbol) (s := w17) 1 rfl).snap) (snapD_int _ _) (fun c20 => ?_)
        refine sim_let2 (hand_plain (by rfl) _ _) ?_
        refine sim_let (v := bv (decide (c20 < 0))) (aBin_lss _ _) ?_
        refine sim_cond (fun c21 => ?_) (fun c21 => ?_)
        · exact sim_ret (release_plain (by rfl) _)
        · refine sim_let (v := bv (!decide (c20 = r16))) (aCmp_ne _ _) ?_
          refine sim_cond (fun c22 => ?_) (fun c22 => ?_)
          · exact sim_ret (release_plain (by rfl) _)
          · refine sim_call1 he_impl_ReadSymbols (snapD_str _ _) (fun c23 => ?_)
            refine sim_hand1 O19 (c23.1 : Sl Symbol) (fun z1 => AV.tup [z1, bv c23.2]) (by intro b; simp only [mat_tup, mat_aggD, mat_agg, matLc, matLn, mat_iv, mat_bv, mat_sv, mat_bt, mat_nilS, mat_rS, List.append_nil, List.nil_append, List.length_nil, Nat.add_zero]) (by simp only [noF_tup, noF_aggD, noF_agg, noF_iv, noF_bv, noF_sv, noF_bt, noF_nilS, noF_rS, List.all_cons, List.all_nil, Bool.and_self]) (fun x25 h26 O27 => ?_)
            replace O27 : Hold B h26 [(x4, obS (c2.1 : Sl Symbol)), (x9, obS (w17 : Sl Symbol)), (x25, obS (c23.1 : Sl Symbol))] := O27
            refine sim_let (v := x25) rfl ?_
            refine sim_let (v := bv c23.2) rfl ?_
            refine sim_call2 he_laws_eqSymbolS ((O27.tab (A := Symbol) (s := c23.1) 2 rfl).snap) ((O27.tab (A := Symbol) (s := c2.1) 0 rfl).snap) (fun c28 => ?_)
            refine sim_let2 (hand_plain (by rfl) _ _) ?_
            refine sim_let (v := bv (!c28)) (aUn_not _) ?_
            refine sim_guardF (e := bv) (fun hb29 => ?_) (fun c30 => ?_)
            · refine sim_let (v := bv (!(c23.2 == c2.2))) (aCmp_neB _ _) ?_
              exact sim_ret rfl
            · refine sim_let (v := bv (bif !c28 then true else c30)) (pick_b' _ _ _) ?_
              refine sim_cond (fun c31 => ?_) (fun c31 => ?_)
              · exact sim_ret (release_plain (by rfl) _)
              · refine sim_call2 he_laws_heldSymbolS ((O27.tab (A := Symbol) (s := w17) 1 rfl).snap) (snapD_int _ _) (fun c32 => ?_)
                refine sim_let2 (hand_plain (by rfl) _ _) ?_
                refine sim_let (v := bv (decide (c32 < 0))) (aBin_lss _ _) ?_
                refine sim_cond (fun c33 => ?_) (fun c33 => ?_)
                · exact sim_ret (release_plain (by rfl) _)
                · refine sim_let (v := bv (!decide (c32 = r16))) (aCmp_ne _ _) ?_
                  refine sim_cond (fun c34 => ?_) (fun c34 => ?_)
                  · exact sim_ret (release_plain (by rfl) _)
                  · exact sim_ret (release_plain (by rfl) _)
theorem tt_laws_FnExactReadSymbols : PureOK Tryd.prog n_laws_FnExactReadSymbols (C1 (fun c : Bool => enc c) t_laws_FnExactReadSymbols) := pureC1 (Econs tt_impl_ReadSymbols (Econs tt_laws_eqSymbolS (Econs tt_laws_heldSymbolS (EconsG (gen_of_den eo_laws_markSymbolS mixed hb_laws_markSymbolS) (Econs tt_spec_ReadSymbols E0))))) mixed hb_laws_FnExactReadSymbols fun aS_ => ts_laws_FnExactReadSymbols _ (by simp [envL]) (by simp [envL]) (by simp [envL]) (by simp [envL]) (by simp [envL]) aS_

/-! ### Texts that are parted at a byte -/
def splitA (c : UInt8) (p : List UInt8) : List UInt8 → List (List UInt8)
  | [] => [p]
  | x :: l => if x = c then p :: splitA c [] l else splitA c (p ++ [x]) l
theorem splitA_hit {c : UInt8} {r : List UInt8} : ∀ {a : List UInt8} (_ : c ∉ a) (p : List UInt8), splitA c p (a ++ c :: r) = (p ++ a) :: splitA c [] r
  | [], _, p => by simp [splitA]
  | x :: a, h, p => by
    have h1 : x ≠ c := fun e => h (by rw [e]; exact List.mem_cons_self ..)
    have h2 : c ∉ a := fun e => h (List.mem_cons_of_mem _ e)
    rw [List.cons_append, splitA, if_neg h1, splitA_hit h2]
    simp
theorem splitA_miss {c : UInt8} : ∀ {a : List UInt8} (_ : c ∉ a) (p : List UInt8), splitA c p a = [p ++ a]
  | [], _, p => by simp [splitA]
  | x :: a, h, p => by
    have h1 : x ≠ c := fun e => h (by rw [e]; exact List.mem_cons_self ..)
    have h2 : c ∉ a := fun e => h (List.mem_cons_of_mem _ e)
    rw [splitA, if_neg h1, splitA_miss h2]
    simp
def joinA (c : UInt8) : List (List UInt8) → List UInt8
  | [] => []
  | [a] => a
  | a :: b :: t => a ++ c :: joinA c (b :: t)
theorem splitA_ne (c : UInt8) : ∀ (l p : List UInt8), splitA c p l ≠ []
  | [], p => by simp [splitA]
  | x :: l, p => by
    rw [splitA]
    split
    · simp
    · exact splitA_ne c l _
theorem joinA_cons {c : UInt8} {a : List UInt8} {t : List (List UInt8)} (h : t ≠ []) : joinA c (a :: t) = a ++ c :: joinA c t := by
  cases t with
  | nil => exact absurd rfl h
  | cons b t => rfl
theorem splitA_join (c : UInt8) : ∀ (l p : List UInt8), joinA c (splitA c p l) = p ++ l
  | [], p => by simp [splitA, joinA]
  | x :: l, p => by
    rw [splitA]
    split
    · rename_i e
      rw [joinA_cons (splitA_ne c l []), splitA_join c l [], e]
      simp
    · rw [splitA_join c l]
      simp
theorem splitA_snoc (c : UInt8) : ∀ (l p : List UInt8), splitA c p (l ++ [c]) = splitA c p l ++ [[]]
  | [], p => by simp [splitA]
  | x :: l, p => by
    rw [List.cons_append, splitA, splitA]
    split
    · rw [splitA_snoc c l, List.cons_append]
    · exact splitA_snoc c l _
theorem splitA_len (c : UInt8) : ∀ (l p : List UInt8), (splitA c p l).length ≤ l.length + 1
  | [], p => by simp [splitA]
  | x :: l, p => by
    rw [splitA]
    split
    · have := splitA_len c l []
      simp only [List.length_cons]
      omega
    · have := splitA_len c l (p ++ [x])
      simp only [List.length_cons]
      omega
/-- The last part is empty only behind a byte `c`, or where all is empty. -/
theorem splitA_last (c : UInt8) : ∀ (l p : List UInt8), (splitA c p l).getLast? = some [] → (p = [] ∧ l = []) ∨ ∃ l', l = l' ++ [c]
  | [], p, h => by
    simp [splitA] at h
    exact .inl ⟨h, rfl⟩
  | x :: l, p, h => by
    rw [splitA] at h
    split at h
    · rename_i e
      rw [List.getLast?_cons] at h
      have hn := splitA_ne c l []
      cases hg : (splitA c [] l).getLast? with
      | none => exact absurd (List.getLast?_eq_none_iff.1 hg) hn
      | some y =>
        rw [hg] at h
        simp only [Option.getD_some, Option.some.injEq] at h
        subst h
        rcases splitA_last c l [] hg with ⟨_, h2⟩ | ⟨l', h2⟩
        · exact .inr ⟨[], by rw [h2, e]; rfl⟩
        · exact .inr ⟨x :: l', by rw [h2]; rfl⟩
    · rcases splitA_last c l _ h with ⟨h2, _⟩ | ⟨l', h2⟩
      · simp at h2
      · exact .inr ⟨x :: l', by rw [h2]; rfl⟩

end Go.Proofs.YtbamachgomdjkaaDoor
