/-
  The law FnExactRelationTable holds, for all arguments: it returns true, and its arguments read behind the call as before. No condition.
-/
import Derived.Test.YtkjdabdjkmbdjaaFnExactRelationTableGen
import Derived.Test.YtkjdabdjkmbdjaaRows
namespace Go.Proofs.Ytkjdabdjkmbdjaa
open Go Go.Eng Go.Eng.Cod
set_option maxRecDepth 100000
set_option linter.unusedVariables false
set_option linter.unusedSimpArgs false

theorem nil_ok : EnvOK Try.prog (envL []) := E0

def within (a b c : Int) : Bool := decide (b ≤ a) && decide (a ≤ c)

theorem ok_impl_within : PureOK Try.prog n_impl_within (T3 within) := pureT3 nil_ok mixed hb_impl_within fun a b c => by
  simp [e_impl_within, within]

theorem ok_spec_l00In : PureOK Try.prog n_spec_l00In (T3 within) := pureT3 nil_ok mixed hb_spec_l00In fun a b c => by
  simp [e_spec_l00In, within]

def validBox (b : Box) : Bool := within b.x1 0 b.x2 && within b.y1 0 b.y2 && decide (b.x2 ≤ 4095) && decide (b.y2 ≤ 4095)

theorem ok_impl_ValidBox : PureOK Try.prog n_impl_ValidBox (T1 validBox) :=
  pureT1 (E1 ok_impl_within) mixed hb_impl_ValidBox fun b => by
  simp [e_impl_ValidBox, envL, aBox, aLoad, cut, validBox]

theorem ok_spec_l02Box : PureOK Try.prog n_spec_l02Box (T1 validBox) :=
  pureT1 (E1 ok_spec_l00In) mixed hb_spec_l02Box fun b => by
  simp [e_spec_l02Box, envL, aBox, aLoad, cut, validBox]

theorem ok_laws_toBox : PureOK Try.prog n_laws_toBox (T1 fun b : Box => b) := pureT1 nil_ok mixed hb_laws_toBox fun b => by
  simp [e_laws_toBox, aBox, aLoad, cut, aStore, splice, retL, resL, pack]

theorem ok_laws_eqBox : PureOK Try.prog n_laws_eqBox (T2 fun a b : Box => decide (a = b)) := pureT2 nil_ok mixed hb_laws_eqBox fun a b => by
  simp [e_laws_eqBox, aBox, aLoad, cut]
  obtain ⟨a1, a2, a3, a4⟩ := a
  obtain ⟨b1, b2, b3, b4⟩ := b
  simp

theorem ok_laws_toSymbol : PureOK Try.prog n_laws_toSymbol (T1 fun b : Symbol => b) := pureT1 (E1 ok_laws_toBox) mixed hb_laws_toSymbol fun b => by
  simp [e_laws_toSymbol, envL, aBox, aLoad, cut, aStore, splice, retL, resL, pack]

theorem ok_laws_eqSymbol : PureOK Try.prog n_laws_eqSymbol (T2 fun a b : Symbol => decide (a = b)) := pureT2 (E1 ok_laws_eqBox) mixed hb_laws_eqSymbol fun a b => by
  simp [e_laws_eqSymbol, envL, aBox, aLoad, cut]
  obtain ⟨a0, a1⟩ := a
  obtain ⟨b0, b1⟩ := b
  simp

def names : List ByteArray := [⟨#[110, 111, 110, 101]⟩, ⟨#[114, 105, 103, 104, 116]⟩, ⟨#[97, 98, 111, 118, 101]⟩, ⟨#[98, 101, 108, 111, 119]⟩, ⟨#[117, 112, 112, 101, 114]⟩, ⟨#[108, 111, 119, 101, 114]⟩, ⟨#[105, 110, 115, 105, 100, 101]⟩]
@[simp] theorem names_len : names.length = 7 := rfl

def find (s : ByteArray) : List ByteArray → Nat → Int
  | [], _ => -1
  | x :: r, i => bif decide (x = s) then (i : Int) else find s r (i + 1)
def relationNamed (s : ByteArray) : Int × Int := bif decide (find s names 0 < 0) then (0, 3) else (find s names 0, 0)
theorem find_pos (s : ByteArray) : ∀ (l : List ByteArray) (i : Nat), find s l i = -1 ∨ 0 ≤ find s l i
  | [], _ => .inl rfl
  | x :: r, i => by
    unfold find
    cases decide (x = s)
    · simpa using find_pos s r (i + 1)
    · right; simp

def relation (a b : Box) : Int :=
  bif !decide (a = b) && (decide (a.x1 ≤ b.x1) && (decide (a.y1 ≤ b.y1) && (decide (b.x2 ≤ a.x2) && decide (b.y2 ≤ a.y2)))) then 6
  else bif decide (wr (a.x1 + a.x2) ≤ wr (2 * b.x1)) then
    bif decide (wr (2 * b.y2) ≤ wr (a.y1 + a.y2)) then 4 else bif decide (wr (a.y1 + a.y2) ≤ wr (2 * b.y1)) then 5 else 1
  else bif decide (b.y2 ≤ a.y1) then 2 else bif decide (a.y2 ≤ b.y1) then 3 else 0

theorem ok_impl_relation : PureOK Try.prog n_impl_relation (T2 relation) := pureT2 nil_ok mixed hb_impl_relation fun a b => by
  have hc := aCmp_box a b
  simp [e_impl_relation, aBox, aLoad, cut, hc.1, hc.2, relation]
  generalize decide (a = b) = c0
  generalize decide (a.x1 ≤ b.x1) = c1
  generalize decide (a.y1 ≤ b.y1) = c2
  generalize decide (b.x2 ≤ a.x2) = c3
  generalize decide (b.y2 ≤ a.y2) = c4
  generalize decide (wr (a.x1 + a.x2) ≤ wr (2 * b.x1)) = c5
  generalize decide (wr (2 * b.y2) ≤ wr (a.y1 + a.y2)) = c6
  generalize decide (wr (a.y1 + a.y2) ≤ wr (2 * b.y1)) = c7
  generalize decide (b.y2 ≤ a.y1) = c8
  generalize decide (a.y2 ≤ b.y1) = c9
  cases c5 <;> cases c1 <;> cases c2 <;> cases c3 <;> cases c4 <;> cases c0 <;> simp

theorem ok_spec_l20Relation : PureOK Try.prog n_spec_l20Relation (T2 relation) := pureT2 nil_ok mixed hb_spec_l20Relation fun a b => by
  have hc := aCmp_box a b
  simp [e_spec_l20Relation, aBox, aLoad, cut, hc.1, hc.2, relation]
  generalize decide (a = b) = c0
  generalize decide (a.x1 ≤ b.x1) = c1
  generalize decide (a.y1 ≤ b.y1) = c2
  generalize decide (b.x2 ≤ a.x2) = c3
  generalize decide (b.y2 ≤ a.y2) = c4
  generalize decide (wr (a.x1 + a.x2) ≤ wr (2 * b.x1)) = c5
  generalize decide (wr (2 * b.y2) ≤ wr (a.y1 + a.y2)) = c6
  generalize decide (wr (a.y1 + a.y2) ≤ wr (2 * b.y1)) = c7
  generalize decide (b.y2 ≤ a.y1) = c8
  generalize decide (a.y2 ≤ b.y1) = c9
  cases c5 <;> cases c1 <;> cases c2 <;> cases c3 <;> cases c4 <;> cases c0 <;> simp

def isLow (b : UInt8) : Bool := decide ((97 : Int) ≤ (b.toNat : Int)) && decide ((b.toNat : Int) ≤ 122)

theorem ok_impl_isLetter : PureOK Try.prog n_impl_isLetter (T1 isLow) := pureT1 E0 mixed hb_impl_isLetter fun b => by
  simp [e_impl_isLetter, isLow]

theorem ok_spec_l01Small : PureOK Try.prog n_spec_l01Small (T1 isLow) := pureT1 E0 mixed hb_spec_l01Small fun b => by
  simp [e_spec_l01Small, isLow]

theorem ok_internal_bytealg_IndexByteString : PureOK Try.prog n_internal_bytealg_IndexByteString (T2 indexB) :=
  pure_indexByte (fn := Try.f143) Try.func143 (by kernel_rfl) (by kernel_rfl) (by kernel_rfl) (by kernel_rfl)

theorem ok_internal_stringslite_IndexByte : PureOK Try.prog n_internal_stringslite_IndexByte (T2 indexB) := pureT2 (E1 ok_internal_bytealg_IndexByteString) mixed hb_internal_stringslite_IndexByte fun s b => by
  simp [e_internal_stringslite_IndexByte, envL]

def byte0 (t : ByteArray) : UInt8 := (bl t).headD 0
theorem one_byte {t : ByteArray} (h : t.size = 1) : bl t = [byte0 t] := by
  have : (bl t).length = 1 := by rw [bl_len, h]
  match hb : bl t, this with
  | [b], _ => simp [byte0, hb]
theorem ok_internal_stringslite_Index : PureOK Try.prog n_internal_stringslite_Index (G2 (fun _ t : ByteArray => decide (t.size = 1)) fun s t => iv (indexB s (byte0 t))) :=
  pureG2 (E1 ok_internal_stringslite_IndexByte) mixed hb_internal_stringslite_Index fun s t h => by
  have h1 : t.size = 1 := of_decide_eq_true h
  have h2 : aLenK .str (sv t) = some (iv 1) := by rw [aLenK_str, h1]; rfl
  have h3 : aCmp .eql .plain (iv 1) (iv 0) = some (bv false) := rfl
  have h4 : aCmp .eql .plain (iv 1) (iv 1) = some (bv true) := rfl
  have h5 : aIndexStr (sv t) (iv 0) = some (bt (byte0 t)) := by
    rw [idx_str, h1, one_byte h1]
    rfl
  rw [e_internal_stringslite_Index]
  simp only [enc_str, h2, obind_sm, h3, guardB_false, cond_false, aCmp_eqS, obind2_sm, aPick_bv, condB_bv]
  by_cases e : t = s
  · subst e
    have e0 : indexB t (byte0 t) = 0 := by
      obtain ⟨⟨l⟩⟩ := t
      match l, h1 with
      | [b], _ => 
        show (match (List.range 1).find? (fun i => (⟨#[b]⟩ : ByteArray)[i]! == b) with | some i => (i : Int) | none => -1) = 0
        have : ((⟨#[b]⟩ : ByteArray)[0]! == b) = true := by
          have : (⟨#[b]⟩ : ByteArray)[0]! = b := rfl
          rw [this]
          simp
        simp [List.range_succ, this]
    simp only [decide_true, cond_true, obind_sm, release_iv, e0]
  · simp only [e, decide_false, cond_false, h4, obind_sm, cond_true, h5]
    simp [envL]

theorem ok_strings_Index : PureOK Try.prog n_strings_Index (G2 (fun _ t : ByteArray => decide (t.size = 1)) fun s t => iv (indexB s (byte0 t))) :=
  pureG2 (E1 ok_internal_stringslite_Index) mixed hb_strings_Index fun s t h => by
  simp [e_strings_Index, envL, of_decide_eq_true h]

theorem ok_strings_Contains : PureOK Try.prog n_strings_Contains (G2 (fun _ t : ByteArray => decide (t.size = 1)) fun s t => bv (decide (0 ≤ indexB s (byte0 t)))) :=
  pureG2 (E1 ok_strings_Index) mixed hb_strings_Contains fun s t h => by
  simp [e_strings_Contains, envL, of_decide_eq_true h]

def labelB (b : UInt8) : Bool := decide ((b.toNat : Int) = 43) || (decide ((b.toNat : Int) = 45) || (decide ((b.toNat : Int) = 42) || (decide ((b.toNat : Int) = 47) || (decide ((b.toNat : Int) = 61) || (decide ((b.toNat : Int) = 40) || (decide ((b.toNat : Int) = 41) || (decide ((b.toNat : Int) = 46) || (decide ((b.toNat : Int) = 44) ||
  (isLow b || (decide ((48 : Int) ≤ (b.toNat : Int)) && decide ((b.toNat : Int) ≤ 57)))))))))))
def labelSet : ByteArray := ⟨#[48, 49, 50, 51, 52, 53, 54, 55, 56, 57, 43, 45, 42, 47, 61, 40, 41, 46, 44]⟩
theorem label_all : ∀ n : Fin 256, (isLow (UInt8.ofNat n.val) || decide (0 ≤ indexB labelSet (UInt8.ofNat n.val))) = labelB (UInt8.ofNat n.val) := by decide +kernel
theorem label_eq (b : UInt8) : (isLow b || decide (0 ≤ indexB labelSet b)) = labelB b := by
  have := label_all ⟨b.toNat, b.toNat_lt⟩
  simpa using this
def isLabel (s : ByteArray) : Bool := decide (s.size = 1) && labelB (byte0 s)

theorem ok_spec_l11Label : PureOK Try.prog n_spec_l11Label (T1 labelB) := pureT1 (E1 ok_spec_l01Small) mixed hb_spec_l11Label fun b => by
  cases hw : isLow b <;> simp [e_spec_l11Label, envL, labelB, hw]
  all_goals cases decide ((48 : Int) ≤ (b.toNat : Int)) <;> simp
  all_goals
    congr 1
    generalize decide ((b.toNat : Int) = 43) = c43
    generalize decide ((b.toNat : Int) = 45) = c45
    generalize decide ((b.toNat : Int) = 42) = c42
    generalize decide ((b.toNat : Int) = 47) = c47
    generalize decide ((b.toNat : Int) = 61) = c61
    generalize decide ((b.toNat : Int) = 40) = c40
    generalize decide ((b.toNat : Int) = 41) = c41
    generalize decide ((b.toNat : Int) = 46) = c46
    generalize decide ((b.toNat : Int) = 44) = c44
    generalize decide ((b.toNat : Int) ≤ 57) = d
    revert c43 c45 c42 c47 c61 c40 c41 c46 c44 d
    decide +kernel

theorem ok_impl_IsLabel : PureOK Try.prog n_impl_IsLabel (T1 isLabel) := pureT1 (E2 ok_impl_isLetter ok_strings_Contains) mixed hb_impl_IsLabel fun s => by
  by_cases h1 : s.size = 1
  · have h5 : aIndexStr (sv s) (iv 0) = some (bt (byte0 s)) := by
      rw [idx_str, h1, one_byte h1]
      rfl
    have hl := label_eq (byte0 s)
    unfold labelSet at hl
    cases hw : isLow (byte0 s)
    · rw [hw] at hl
      simp at hl
      simp [e_impl_IsLabel, envL, h5, h1, hw, isLabel, hl]
    · rw [hw] at hl
      simp at hl
      simp [e_impl_IsLabel, envL, h5, h1, hw, isLabel, hl]
  · have h2 : ¬ ((s.size : Nat) : Int) = 1 := by omega
    simp [e_impl_IsLabel, h2, h1, isLabel]

theorem ok_spec_IsLabel : PureOK Try.prog n_spec_IsLabel (T1 isLabel) := pureT1 (E1 ok_spec_l11Label) mixed hb_spec_IsLabel fun s => by
  by_cases h1 : s.size = 1
  · have h5 : aIndexStr (sv s) (iv 0) = some (bt (byte0 s)) := by
      rw [idx_str, h1, one_byte h1]
      rfl
    simp [e_spec_IsLabel, envL, h5, h1, isLabel]
  · have h2 : ¬ ((s.size : Nat) : Int) = 1 := by omega
    simp [e_spec_IsLabel, h2, h1, isLabel]

def okSym (s : Symbol) : Bool := isLabel s.label && validBox s.box
def validSymbols (l : List Symbol) : Bool := decide (l.length ≤ 8) && l.all okSym
theorem ok_impl_ValidSymbols_1 : PureOK Try.prog n_impl_ValidSymbols_1 (T1 fun s : Symbol => !okSym s) := pureT1 (E2 ok_impl_IsLabel ok_impl_ValidBox) mixed hb_impl_ValidSymbols_1 fun s => by
  simp [e_impl_ValidSymbols_1, envL, aBox, aLoad, cut, okSym]

/-- The digits of a number, ahead of a text. -/
def digT (k : Nat) (out : ByteArray) : ByteArray := if _h : k = 0 then out else digT (k / 10) (⟨#[(48 + k % 10).toUInt8]⟩ ++ out)
termination_by k
decreasing_by omega
def markT (k : Nat) : ByteArray := bif decide (k = 0) then ⟨#[109, 48]⟩ else ⟨#[109]⟩ ++ digT k ⟨#[]⟩
theorem size_one (b : UInt8) (out : ByteArray) : ((⟨#[b]⟩ : ByteArray) ++ out).size = 1 + out.size := by
  rw [ByteArray.size_append]
  rfl
theorem add_str (a b : ByteArray) (h : a.size + b.size ≤ 4294967296) : aBin .add (sv a) (sv b) = some (sv (a ++ b)) := by
  have h0 : aBin .add (sv a) (sv b) = (match (if ((a.size + b.size : Nat) : Int) ≤ 9223372036854775807 then some (Value.string (a ++ b)) else none) with | some v => some (AV.sc v) | none => none) := rfl
  rw [h0, if_pos (by omega)]
  rfl
theorem digT_size : ∀ (k : Nat) (out : ByteArray), (digT k out).size ≤ k + out.size := by
  intro k out
  induction k, out using digT.induct with
  | case1 out => rw [digT]; simp
  | case2 k out h ih =>
    rw [digT, dif_neg h]
    rw [size_one] at ih
    omega

/-- The row that a mark leaves: numbers that go up by one, or their texts. -/
def mrow : List Bool → Nat → List AV
  | [], _ => []
  | b :: ks, k => (bif b then sv (markT k) else iv (k : Nat)) :: mrow ks (k + 1)
def mrows (ks : List Bool) : Nat → Nat → List (List AV)
  | _, 0 => []
  | k, m + 1 => mrow ks k :: mrows ks (k + ks.length) m
theorem set_same {h : Heap} {o : Nat} {x : AObj} (ho : h[o]? = some x) : h.set o x = h := by
  obtain ⟨hlt, e⟩ := List.getElem?_eq_some_iff.1 ho
  rw [← e]
  exact List.set_getElem_self hlt
theorem mark_addr {h : Heap} {o n w i : Nat} {P S : List (List AV)} {r : List AV} (ho : h[o]? = some ⟨w, P ++ r :: S⟩) (hi : i = P.length) (hn : P.length + (S.length + 1) = n) : aIndexAddr w (.sl o n 0 n) (iv (i : Nat)) h = some (.ptr o n i 0) := by
  have i1 : idx (iv (i : Int)) n = some i := idx_lt (by omega)
  have hl : (P ++ r :: S).length = n := by simp; omega
  simp only [aIndexAddr, ho, hl, i1, and_self, if_true, Nat.zero_add]
theorem mark_store {h : Heap} {o n w i j : Nat} {P S : List (List AV)} {r : List AV} {v : AV} (ho : h[o]? = some ⟨w, P ++ r :: S⟩) (hi : i = P.length) (hn : P.length + (S.length + 1) = n) (hv : v.cells = [v]) (hf : v.flat = true) (hj : j < r.length) : aStore 1 (.ptr o n i j) v h = some (h.set o ⟨w, P ++ r.set j v :: S⟩) := by
  have hl : (P ++ r :: S).length = n := by simp; omega
  have hg : (P ++ r :: S)[i]? = some r := by simp [hi]
  simp only [aStore, ho, hl, if_true, hg]
  rw [if_pos ⟨by rw [hv]; rfl, by omega, by rw [hv]; simp [hf]⟩]
  congr 3
  rw [hi, hv]
  have hs : splice r j [v] = r.set j v := by
    unfold splice
    simp only [List.length_cons, List.length_nil, Nat.zero_add]
    exact (List.set_eq_take_append_cons_drop (l := r) (i := j) (a := v)).symm ▸ (by simp [hj])
  rw [hs]
  simp

theorem lp_laws_markInt64S (env : Nat → Contract) {y2 y3 y4 y18 : AV} (o n : Nat) : ∀ (S P : List (List AV)) (k i : Nat) (h : Heap), i = P.length → P.length + S.length = n → n ≤ 4294967296 → (∀ r ∈ S, r.length = 1) → k + 1 * S.length ≤ 1000000000 → h[o]? = some ⟨1, P ++ S⟩ →
    (obind (loopP hm0_laws_markInt64S xm0_laws_markInt64S (lb0_laws_markInt64S env) [.sl o n 0 n, iv (k : Nat), y2, y3, y4, iv (i : Nat), .top, .top, .top, .top, .top, .top, .top, .top, .top, .top, .top, .top, y18] h) fun r => lk0_laws_markInt64S env r.1 r.2.1 r.2.2) = some (iv ((k + 1 * S.length : Nat) : Int), h.set o ⟨1, P ++ mrows [false] k S.length⟩) := by
  intro S
  induction S with
  | nil =>
    intro P k i h hi hl hn hr hk ho
    have : ¬ i < n := by simp at hl; omega
    have hs := set_same ho
    simp at hs
    rw [loopP.eq_1]
    simp [e_lb0_laws_markInt64S, restr, e_lk0x0_laws_markInt64S, this, mrows, hs]
  | cons r S ih =>
    intro P k i h hi hl hn hr hk ho
    have hl' : P.length + (S.length + 1) = n := by simpa using hl
    simp only [List.length_cons] at hk
    have hlt : i < n := by omega
    have hrl := hr r (by simp)
    obtain ⟨c0, rfl⟩ : ∃ c0, r = [c0] := by
      match r, hrl with
      | [c0], _ => exact ⟨c0, rfl⟩
    have olt := (List.getElem?_eq_some_iff.1 ho).1
    have a0 := mark_addr (w := 1) (r := [c0]) ho hi hl'
    have s0 := mark_store (j := 0) (v := iv (k : Int)) ho hi hl' rfl rfl (by simp)
    simp only [List.set_cons_zero, List.set_cons_succ, List.set_set] at s0
    have g0 : (h.set o ⟨1, P ++ [(iv (k : Int))] :: S⟩)[o]? = some ⟨1, P ++ [(iv (k : Int))] :: S⟩ := by simp [olt]
    have w0 : wr ((k : Int) + 1) = ((k + 1 : Nat) : Int) := by rw [wr_id (by omega) (by omega)]; omega
    have wi : wr ((i : Int) + 1) = ((i + 1 : Nat) : Int) := by rw [wr_id (by omega) (by omega)]; omega
    have r := ih (P ++ [[(iv (k : Int))]]) (k + 1) (i + 1) (h.set o ⟨1, P ++ [(iv (k : Int))] :: S⟩) (by simp [hi]) (by simp; omega) hn (fun r hr' => hr r (by simp [hr'])) (by omega) (by simp [olt])
    have hlz : ((i : Int) < (n : Nat)) := by omega
    rw [loopP.eq_1]
    simp only [e_lb0_laws_markInt64S, aLenK_sl, obind_sm, aBin_lss, condB_bv, hlz, decide_true, cond_true, aFieldAddr_ptr, Nat.zero_add, a0, s0, w0, wi, aBin_add, restr, cond_false]
    rw [r]
    simp only [mrows, mrow, List.length_cons, List.set_set, List.append_assoc, List.singleton_append, cond_true, cond_false, Nat.add_assoc]
    congr 3
    · omega
theorem gen_laws_markInt64S (env : Nat → Contract) (R : List (List AV)) (o n : Nat) (hn : R.length = n) (hl : n ≤ 4294967296) (hr : ∀ r ∈ R, r.length = 1) (k : Nat) (hk : k + 1 * n ≤ 1000000000) (h : Heap) (ho : h[o]? = some ⟨1, R⟩) :
    denFn Try.prog env n_laws_markInt64S [.sl o n 0 n, iv (k : Nat)] h = some (iv ((k + 1 * n : Nat) : Int), h.set o ⟨1, mrows [false] k n⟩) := by
  have L := fun {y2 y3 y4 y18} => @lp_laws_markInt64S env y2 y3 y4 y18 o n R [] k 0 h rfl (by simpa using hn) hl hr (by rw [hn]; exact hk) (by simpa using ho)
  rw [hn] at L
  simp [-Int.natCast_add] at L
  simp [-Int.natCast_add, e_laws_markInt64S, L]

theorem lp2_laws_markText (env : Nat → Contract) {y1 y2 y4 y5 y18 y19 : AV} : ∀ (k : Nat) (out : ByteArray) (h : Heap), k ≤ 8589934592 → k + out.size ≤ 4000000000 →
    ((obind (loopP hm0_laws_markText xm0_laws_markText (lb0_laws_markText env) [iv (k : Nat), y1, y2, sv out, y4, y5, .top, .top, .top, .top, .top, .top, .top, .top, .top, .top, .top, .top, y18, y19] h) fun r => lk0_laws_markText env r.1 r.2.1 r.2.2).map Prod.fst) = some (sv (⟨#[109]⟩ ++ digT k out)) := by
  intro k out
  induction k, out using digT.induct with
  | case1 out =>
    intro h h1 h2
    rw [loopP.eq_1, digT]
    have hs : (⟨#[109]⟩ : ByteArray).size = 1 := rfl
    have ha := add_str ⟨#[109]⟩ out (by omega)
    simp [e_lb0_laws_markText, restr, e_lk0x0_laws_markText, ha]
  | case2 k out hk ih =>
    intro h h1 h2
    have ih' := fun h => ih h (by omega) (by rw [size_one]; omega)
    have p : (0 : Int) < (k : Int) := by omega
    have a1 : (k : Int).tmod 10 = ((k % 10 : Nat) : Int) := by
      have := Int.ofNat_tmod k 10
      exact this.symm
    have a2 : wr (48 + ((k % 10 : Nat) : Int)) = ((48 + k % 10 : Nat) : Int) := by rw [wr_id (by omega) (by omega)]; omega
    have a3 : aConvInt .u8 (iv ((48 + k % 10 : Nat) : Int)) = some (bt (48 + k % 10).toUInt8) := by
      have h0 : aConvInt .u8 (iv ((48 + k % 10 : Nat) : Int)) = some (.sc (.int .u8 (IntKind.u8.wrap ((48 + k % 10 : Nat) : Int)))) := rfl
      rw [h0]
      unfold bt
      congr 3
    have a4 : (k : Int).tdiv 10 = ((k / 10 : Nat) : Int) := (Int.ofNat_tdiv k 10).symm
    have a5 : wr ((k / 10 : Nat) : Int) = ((k / 10 : Nat) : Int) := wr_id (by omega) (by omega)
    have a6 : ∀ b : UInt8, ∀ h : Heap, aBuildSlice [.sc (.int .u8 0)] 1 [(0, bt b)] h = some (.sl h.length 1 0 1, h ++ [⟨1, [[bt b]]⟩]) := fun b h => rfl
    have a7 : ∀ b : UInt8, ∀ h : Heap, aConvStr (.sl h.length 1 0 1) (h ++ [⟨1, [[bt b]]⟩]) = some (sv ⟨#[b]⟩) := by
      intro b h
      have h0 : aSrc false 1 (.sl h.length 1 0 1) (h ++ [⟨1, [[bt b]]⟩]) = some [[bt b]] := by
        simp [aSrc]
      unfold aConvStr
      rw [h0]
      have h1 : bytesOf [[bt b]] = some [b] := by
        show (match bytesOf [] with | some l => some (((b.toNat : Int)).toNat.toUInt8 :: l) | none => none) = _
        simp [bytesOf]
      show (match bytesOf [[bt b]] with | some l => some (AV.sc (Value.string ⟨l.toArray⟩)) | none => none) = _
      rw [h1]
      rfl
    have a8 := add_str ⟨#[(48 + k % 10).toUInt8]⟩ out (by have : (⟨#[(48 + k % 10).toUInt8]⟩ : ByteArray).size = 1 := rfl; omega)
    rw [loopP.eq_1, digT, dif_neg hk]
    simp only [e_lb0_laws_markText, aBin_gtr, obind_sm, condB_bv, p, decide_true, cond_true, aBin_rem _ 10 (by decide), a1, aBin_add, a2, a3, a6, obind2_sm, a7, a8, aBin_quo _ 10 (by decide), a4, a5, restr, cond_false]
    exact ih' _
theorem okB_laws_markText : PureOK Try.prog n_laws_markText (G1 (fun k : Int => decide (0 ≤ k) && decide (k ≤ 100000000)) fun k => sv (markT k.toNat)) :=
  pureG1 E0 mixed hb_laws_markText fun k h => by
  simp at h
  obtain ⟨m, rfl⟩ := Int.eq_ofNat_of_zero_le h.1
  refine plain_of rfl ?_
  by_cases hz : m = 0
  · subst hz
    simp [e_laws_markText, markT]
  · have hz' : ¬ ((m : Nat) : Int) ≤ 0 := by omega
    have hs : (⟨#[]⟩ : ByteArray).size = 0 := rfl
    have L := fun env {y1 y2 y4 y5 y18 y19} h => @lp2_laws_markText env y1 y2 y4 y5 y18 y19 m ⟨#[]⟩ h (by omega) (by omega)
    rw [e_laws_markText]
    simp only [enc_int, aBin_leq, obind_sm, condB_bv, hz', decide_false, cond_false, L, Int.toNat_natCast, markT, hz]

theorem lp_laws_markSymbolS (env : Nat → Contract) (he : env n_laws_markText = .pure (G1 (fun k : Int => decide (0 ≤ k) && decide (k ≤ 100000000)) fun k => sv (markT k.toNat))) {y2 y3 y4 y52 : AV} (o n : Nat) : ∀ (S P : List (List AV)) (k i : Nat) (h : Heap), i = P.length → P.length + S.length = n → n ≤ 4294967296 → (∀ r ∈ S, r.length = 5) → k + 5 * S.length ≤ 100000000 → h[o]? = some ⟨5, P ++ S⟩ →
    (obind (loopP hm0_laws_markSymbolS xm0_laws_markSymbolS (lb0_laws_markSymbolS env) ((.sl o n 0 n) :: (iv (k : Nat)) :: y2 :: y3 :: y4 :: (iv (i : Nat)) :: .top :: .top :: .top :: .top :: .top :: .top :: .top :: .top :: .top :: .top :: .top :: .top :: .top :: .top :: .top :: .top :: .top :: .top :: .top :: .top :: .top :: .top :: .top :: .top :: .top :: .top :: .top :: .top :: .top :: .top :: .top :: .top :: .top :: .top :: .top :: .top :: .top :: .top :: .top :: .top :: .top :: .top :: .top :: .top :: .top :: .top :: y52 :: []) h) fun r => lk0_laws_markSymbolS env r.1 r.2.1 r.2.2) = some (iv ((k + 5 * S.length : Nat) : Int), h.set o ⟨5, P ++ mrows [true, false, false, false, false] k S.length⟩) := by
  intro S
  induction S with
  | nil =>
    intro P k i h hi hl hn hr hk ho
    have : ¬ i < n := by simp at hl; omega
    have hs := set_same ho
    simp at hs
    rw [loopP.eq_1]
    simp [e_lb0_laws_markSymbolS, restr, e_lk0x0_laws_markSymbolS, this, mrows, hs]
  | cons r S ih =>
    intro P k i h hi hl hn hr hk ho
    have hl' : P.length + (S.length + 1) = n := by simpa using hl
    simp only [List.length_cons] at hk
    have hlt : i < n := by omega
    have hrl := hr r (by simp)
    obtain ⟨c0, c1, c2, c3, c4, rfl⟩ : ∃ c0 c1 c2 c3 c4, r = [c0, c1, c2, c3, c4] := by
      match r, hrl with
      | [c0, c1, c2, c3, c4], _ => exact ⟨c0, c1, c2, c3, c4, rfl⟩
    have olt := (List.getElem?_eq_some_iff.1 ho).1
    have a0 := mark_addr (w := 5) (r := [c0, c1, c2, c3, c4]) ho hi hl'
    have s0 := mark_store (j := 0) (v := sv (markT k)) ho hi hl' rfl rfl (by simp)
    simp only [List.set_cons_zero, List.set_cons_succ, List.set_set] at s0
    have g0 : (h.set o ⟨5, P ++ [(sv (markT k)), c1, c2, c3, c4] :: S⟩)[o]? = some ⟨5, P ++ [(sv (markT k)), c1, c2, c3, c4] :: S⟩ := by simp [olt]
    have w0 : wr ((k : Int) + 1) = ((k + 1 : Nat) : Int) := by rw [wr_id (by omega) (by omega)]; omega
    have t0 : (0 ≤ (k : Int)) = True := eq_true (by omega)
    have u0 : ((k : Int) ≤ 100000000) = True := eq_true (by omega)
    have q0 : ∀ h, aCall (env n_laws_markText) [iv (k : Int)] h = some (sv (markT k), h) := fun h => by
      rw [he]
      simp [-Int.natCast_add, t0, u0]
    have a1 := mark_addr (w := 5) (r := [(sv (markT k)), c1, c2, c3, c4]) g0 hi hl'
    have s1 := mark_store (j := 1) (v := iv ((k + 1 : Nat) : Int)) g0 hi hl' rfl rfl (by simp)
    simp only [List.set_cons_zero, List.set_cons_succ, List.set_set] at s1
    have g1 : (h.set o ⟨5, P ++ [(sv (markT k)), (iv ((k + 1 : Nat) : Int)), c2, c3, c4] :: S⟩)[o]? = some ⟨5, P ++ [(sv (markT k)), (iv ((k + 1 : Nat) : Int)), c2, c3, c4] :: S⟩ := by simp [olt]
    have w1 : wr (((k + 1 : Nat) : Int) + 1) = ((k + 2 : Nat) : Int) := by rw [wr_id (by omega) (by omega)]; omega
    have a2 := mark_addr (w := 5) (r := [(sv (markT k)), (iv ((k + 1 : Nat) : Int)), c2, c3, c4]) g1 hi hl'
    have s2 := mark_store (j := 2) (v := iv ((k + 2 : Nat) : Int)) g1 hi hl' rfl rfl (by simp)
    simp only [List.set_cons_zero, List.set_cons_succ, List.set_set] at s2
    have g2 : (h.set o ⟨5, P ++ [(sv (markT k)), (iv ((k + 1 : Nat) : Int)), (iv ((k + 2 : Nat) : Int)), c3, c4] :: S⟩)[o]? = some ⟨5, P ++ [(sv (markT k)), (iv ((k + 1 : Nat) : Int)), (iv ((k + 2 : Nat) : Int)), c3, c4] :: S⟩ := by simp [olt]
    have w2 : wr (((k + 2 : Nat) : Int) + 1) = ((k + 3 : Nat) : Int) := by rw [wr_id (by omega) (by omega)]; omega
    have a3 := mark_addr (w := 5) (r := [(sv (markT k)), (iv ((k + 1 : Nat) : Int)), (iv ((k + 2 : Nat) : Int)), c3, c4]) g2 hi hl'
    have s3 := mark_store (j := 3) (v := iv ((k + 3 : Nat) : Int)) g2 hi hl' rfl rfl (by simp)
    simp only [List.set_cons_zero, List.set_cons_succ, List.set_set] at s3
    have g3 : (h.set o ⟨5, P ++ [(sv (markT k)), (iv ((k + 1 : Nat) : Int)), (iv ((k + 2 : Nat) : Int)), (iv ((k + 3 : Nat) : Int)), c4] :: S⟩)[o]? = some ⟨5, P ++ [(sv (markT k)), (iv ((k + 1 : Nat) : Int)), (iv ((k + 2 : Nat) : Int)), (iv ((k + 3 : Nat) : Int)), c4] :: S⟩ := by simp [olt]
    have w3 : wr (((k + 3 : Nat) : Int) + 1) = ((k + 4 : Nat) : Int) := by rw [wr_id (by omega) (by omega)]; omega
    have a4 := mark_addr (w := 5) (r := [(sv (markT k)), (iv ((k + 1 : Nat) : Int)), (iv ((k + 2 : Nat) : Int)), (iv ((k + 3 : Nat) : Int)), c4]) g3 hi hl'
    have s4 := mark_store (j := 4) (v := iv ((k + 4 : Nat) : Int)) g3 hi hl' rfl rfl (by simp)
    simp only [List.set_cons_zero, List.set_cons_succ, List.set_set] at s4
    have g4 : (h.set o ⟨5, P ++ [(sv (markT k)), (iv ((k + 1 : Nat) : Int)), (iv ((k + 2 : Nat) : Int)), (iv ((k + 3 : Nat) : Int)), (iv ((k + 4 : Nat) : Int))] :: S⟩)[o]? = some ⟨5, P ++ [(sv (markT k)), (iv ((k + 1 : Nat) : Int)), (iv ((k + 2 : Nat) : Int)), (iv ((k + 3 : Nat) : Int)), (iv ((k + 4 : Nat) : Int))] :: S⟩ := by simp [olt]
    have w4 : wr (((k + 4 : Nat) : Int) + 1) = ((k + 5 : Nat) : Int) := by rw [wr_id (by omega) (by omega)]; omega
    have wi : wr ((i : Int) + 1) = ((i + 1 : Nat) : Int) := by rw [wr_id (by omega) (by omega)]; omega
    have r := ih (P ++ [[(sv (markT k)), (iv ((k + 1 : Nat) : Int)), (iv ((k + 2 : Nat) : Int)), (iv ((k + 3 : Nat) : Int)), (iv ((k + 4 : Nat) : Int))]]) (k + 5) (i + 1) (h.set o ⟨5, P ++ [(sv (markT k)), (iv ((k + 1 : Nat) : Int)), (iv ((k + 2 : Nat) : Int)), (iv ((k + 3 : Nat) : Int)), (iv ((k + 4 : Nat) : Int))] :: S⟩) (by simp [hi]) (by simp; omega) hn (fun r hr' => hr r (by simp [hr'])) (by omega) (by simp [olt])
    have hlz : ((i : Int) < (n : Nat)) := by omega
    rw [loopP.eq_1]
    simp only [e_lb0_laws_markSymbolS, aLenK_sl, obind_sm, aBin_lss, condB_bv, hlz, decide_true, cond_true, aFieldAddr_ptr, Nat.zero_add, a0, s0, w0, q0, obind2_sm, a1, s1, w1, a2, s2, w2, a3, s3, w3, a4, s4, w4, wi, aBin_add, restr, cond_false]
    rw [r]
    simp only [mrows, mrow, List.length_cons, List.set_set, List.append_assoc, List.singleton_append, cond_true, cond_false, Nat.add_assoc]
    congr 3
    · omega
theorem gen_laws_markSymbolS (env : Nat → Contract) (he : env n_laws_markText = .pure (G1 (fun k : Int => decide (0 ≤ k) && decide (k ≤ 100000000)) fun k => sv (markT k.toNat))) (R : List (List AV)) (o n : Nat) (hn : R.length = n) (hl : n ≤ 4294967296) (hr : ∀ r ∈ R, r.length = 5) (k : Nat) (hk : k + 5 * n ≤ 100000000) (h : Heap) (ho : h[o]? = some ⟨5, R⟩) :
    denFn Try.prog env n_laws_markSymbolS [.sl o n 0 n, iv (k : Nat)] h = some (iv ((k + 5 * n : Nat) : Int), h.set o ⟨5, mrows [true, false, false, false, false] k n⟩) := by
  have L := fun {y2 y3 y4 y52} => @lp_laws_markSymbolS env he y2 y3 y4 y52 o n R [] k 0 h rfl (by simpa using hn) hl hr (by rw [hn]; exact hk) (by simpa using ho)
  rw [hn] at L
  simp [-Int.natCast_add] at L
  simp [-Int.natCast_add, e_laws_markSymbolS, L]

noncomputable def ev_laws_markSymbolS : Nat → Contract := envL [(n_laws_markText, .pure (G1 (fun k : Int => decide (0 ≤ k) && decide (k ≤ 100000000)) fun k => sv (markT k.toNat)))]
theorem eo_laws_markSymbolS : EnvOK Try.prog ev_laws_markSymbolS := Econs okB_laws_markText E0

/-- Marks in a list of numbers, of boxes. -/
def mkI : Int → Nat → List Int
  | _, 0 => []
  | k, n + 1 => k :: mkI (k + 1) n
def mkB : Int → Nat → List Box
  | _, 0 => []
  | k, n + 1 => ⟨k, k + 1, k + 2, k + 3⟩ :: mkB (k + 4) n
theorem mkI_len : ∀ (n : Nat) (k : Int), (mkI k n).length = n
  | 0, _ => rfl
  | n + 1, k => by simp [mkI, mkI_len n]
theorem mkB_len : ∀ (n : Nat) (k : Int), (mkB k n).length = n
  | 0, _ => rfl
  | n + 1, k => by simp [mkB, mkB_len n]
def t_laws_markInt64S (s : Sl Int) (k : Int) : Option (Int × Sl Int) := bif decide (0 ≤ k) && decide (k + 1 * ((s.getD []).length : Nat) ≤ 1000000000) then some (k + 1 * ((s.getD []).length : Nat), s.map fun l => mkI k l.length) else none
def t_laws_markBoxS (s : Sl Box) (k : Int) : Option (Int × Sl Box) := bif decide (0 ≤ k) && decide (k + 4 * ((s.getD []).length : Nat) ≤ 1000000000) then some (k + 4 * ((s.getD []).length : Nat), s.map fun l => mkB k l.length) else none

theorem mrows_I : ∀ (n k : Nat), mrows [false] k n = (mkI (k : Int) n).map Row.cells
  | 0, _ => rfl
  | n + 1, k => by
    have ih := mrows_I n (k + 1)
    show [iv (k : Int)] :: mrows [false] (k + 1) n = [iv (k : Int)] :: (mkI ((k : Int) + 1) n).map Row.cells
    rw [ih]
    rfl
theorem mk_laws_markInt64S : MarkOK (denFn Try.prog (envL []) n_laws_markInt64S) t_laws_markInt64S := by
  intro s k r s' h
  unfold t_laws_markInt64S at h
  cases c : decide (0 ≤ k) && decide (k + 1 * ((s.getD []).length : Nat) ≤ 1000000000) with
  | false => rw [c] at h; cases h
  | true =>
    rw [c] at h
    simp only [cond_true, Option.some.injEq, Prod.mk.injEq] at h
    obtain ⟨rfl, rfl⟩ := h
    simp only [Bool.and_eq_true, decide_eq_true_eq] at c
    obtain ⟨m, rfl⟩ := Int.eq_ofNat_of_zero_le c.1
    cases s with
    | none =>
      refine .inl ⟨rfl, rfl, fun h => ?_⟩
      rw [e_laws_markInt64S, loopP.eq_1]
      simp [e_lb0_laws_markInt64S, e_lk0x0_laws_markInt64S, restr]
    | some l =>
      refine .inr ⟨l, mkI m l.length, rfl, rfl, mkI_len _ _, fun o h ho => ?_⟩
      have g := gen_laws_markInt64S (envL []) (l.map Row.cells) o l.length (by simp) (by simp only [Option.getD_some] at c; omega) (fun r hr => by
        obtain ⟨a, _, rfl⟩ := List.mem_map.1 hr
        rfl) m (by simp only [Option.getD_some] at c; omega) h ho
      rw [mrows_I] at g
      rw [g]
      simp only [Option.getD_some]
      congr 3

/-- Marks in a table of lists of numbers. -/
def mkL : List (Sl Int) → Int → Option (Int × List (Sl Int))
  | [], k => some (k, [])
  | a :: l, k => obind (t_laws_markInt64S a k) fun p => obind (mkL l p.1) fun q => some (q.1, p.2 :: q.2)
def t_laws_markInt64SS (s : Sl (Sl Int)) (k : Int) : Option (Int × Sl (Sl Int)) := bif decide ((s.getD []).length ≤ 4294967296) then match s with
  | none => some (k, none)
  | some l => obind (mkL l k) fun q => some (q.1, some q.2) else none

noncomputable def ev_laws_markInt64SS : Nat → Contract := envL [(n_laws_markInt64S, .gen (denFn Try.prog (envL []) n_laws_markInt64S))]
theorem eo_laws_markInt64SS : EnvOK Try.prog ev_laws_markInt64SS := EconsG (gen_of_den E0 mixed hb_laws_markInt64S) E0
theorem lp_laws_markInt64SS {B : Base} {l : List Ent} {x y2 y3 y4 y18 : AV} : ∀ (n i : Nat) (q : List (Sl Int × AV)) (k r : Int) (t : List (Sl Int)) (h : Heap), i + n = q.length → q.length ≤ 4294967296 → Hold B h (l ++ D2 x (some q)) → mkL ((q.drop i).map Prod.fst) k = some (r, t) →
    ∃ h' q', (obind (loopP hm0_laws_markInt64SS xm0_laws_markInt64SS (lb0_laws_markInt64SS ev_laws_markInt64SS) [x, iv k, y2, y3, y4, iv (i : Nat), .top, .top, .top, .top, .top, .top, .top, .top, .top, .top, .top, .top, y18] h) fun r => lk0_laws_markInt64SS ev_laws_markInt64SS r.1 r.2.1 r.2.2) = some (iv r, h') ∧ q'.map Prod.fst = (q.take i).map Prod.fst ++ t ∧ Hold B h' (l ++ D2 x (some q')) := by
  intro n
  induction n with
  | zero =>
    intro i q k r t h hi hq O hm
    have e : q.drop i = [] := List.drop_eq_nil_of_le (by omega)
    rw [e] at hm
    cases hm
    have hl : aLenK .slice x = some (iv (q.length : Nat)) := by simpa [pj] using D2.len O
    have : ¬ i < q.length := by omega
    refine ⟨h, q, ?_, ?_, O⟩
    · rw [loopP.eq_1]
      simp [e_lb0_laws_markInt64SS, restr, e_lk0x0_laws_markInt64SS, hl, this]
    · rw [List.take_of_length_le (by omega), List.append_nil]
  | succ n ih =>
    intro i q k r t h hi hq O hm
    have hlt : i < q.length := by omega
    obtain ⟨⟨a, y⟩, hy⟩ : ∃ p, q[i]? = some p := ⟨q[i], List.getElem?_eq_getElem hlt⟩
    have hd : q.drop i = (a, y) :: q.drop (i + 1) := by
      rw [List.drop_eq_getElem_cons hlt]
      rw [List.getElem?_eq_getElem hlt] at hy
      rw [Option.some.inj hy]
    rw [hd] at hm
    change obind (t_laws_markInt64S a k) (fun p => obind (mkL ((q.drop (i + 1)).map Prod.fst) p.1) fun q => some (q.1, p.2 :: q.2)) = some (r, t) at hm
    cases e1 : t_laws_markInt64S a k with
    | none => rw [e1] at hm; cases hm
    | some p =>
      obtain ⟨k1, a'⟩ := p
      rw [e1, obind_sm] at hm
      cases e2 : mkL ((q.drop (i + 1)).map Prod.fst) k1 with
      | none => rw [e2] at hm; cases hm
      | some p2 =>
        obtain ⟨r2, t2⟩ := p2
        rw [e2] at hm
        cases hm
        have hl : aLenK .slice x = some (iv (q.length : Nat)) := by simpa [pj] using D2.len O
        have hy' : ((some q : PS (Sl Int)).getD [])[i]? = some (a, y) := hy
        have hat := D2.at (A := Sl Int) (l := l) (x := x) hy'
        obtain ⟨o, hx, ho⟩ := D2.head O
        have e3 : aIndexAddr 1 x (iv ((i : Nat) : Int)) h = some (elp x i 0) := by
          subst hx
          simp only [aIndexAddr, ho, List.length_map]
          rw [if_pos ⟨trivial, rfl⟩, idx_lt hlt]
          rfl
        have e4 : aLoad false 1 (elp x i 0) h = some y := by
          rw [D2.ld O hy' false 1 0]
          simp [Inn.row, cut]
        obtain ⟨h1, e5, O1⟩ := O.mark _ hat mk_laws_markInt64S e1
        have hset : (l ++ D2 x (some q)).set (l.length + 1 + i) (y, obS a') = l ++ D2 (A := Sl Int) x (some (q.set i (a', y))) := by
          rw [List.set_append_right _ _ (by omega)]
          have : l.length + 1 + i - l.length = i + 1 := by omega
          rw [this]
          have hr : (q.set i (a', y)).map (fun p => Inn.row (A := Sl Int) p.1 p.2) = q.map fun p => Inn.row (A := Sl Int) p.1 p.2 := by
            rw [List.map_set]
            apply List.ext_getElem?
            intro j
            by_cases ej : i = j
            · subst ej
              rw [List.getElem?_set_self (by simpa using hlt), List.getElem?_map, hy]
              rfl
            · rw [List.getElem?_set_ne ej]
          simp only [D2, List.set_cons_succ, hr, List.map_set]
          rfl
        have O2 : Hold B h1 (l ++ D2 (A := Sl Int) x (some (q.set i (a', y)))) := by
          rw [← hset]
          exact O1
        have ec : aCall (ev_laws_markInt64SS n_laws_markInt64S) [y, iv k] h = some (iv k1, h1) := by
          have : ev_laws_markInt64SS n_laws_markInt64S = .gen (denFn Try.prog (envL []) n_laws_markInt64S) := by simp [ev_laws_markInt64SS, envL]
          rw [this]
          exact e5
        have hdrop : (q.set i (a', y)).drop (i + 1) = q.drop (i + 1) := by
          rw [List.drop_set_of_lt (by omega)]
        obtain ⟨h2, q2, f1, f2, f3⟩ := ih (i + 1) (q.set i (a', y)) k1 r2 t2 h1 (by simp; omega) (by simpa using hq) O2 (by rw [hdrop]; exact e2)
        refine ⟨h2, q2, ?_, ?_, f3⟩
        · rw [loopP.eq_1]
          have hw : wr ((i : Int) + 1) = ((i + 1 : Nat) : Int) := by rw [wr_id (by omega) (by omega)]; omega
          simp [-Int.natCast_add, e_lb0_laws_markInt64SS, restr, hl, hlt, e3, e4, ec, hw]
          simpa [-Int.natCast_add] using f1
        · rw [f2, List.take_add_one, List.map_append]
          have : (q.set i (a', y))[i]? = some (a', y) := List.getElem?_set_self (by simpa using hlt)
          rw [this, List.take_set_of_le (Nat.le_refl _)]
          simp
theorem mk_laws_markInt64SS : MarkDOK (denFn Try.prog ev_laws_markInt64SS n_laws_markInt64SS) t_laws_markInt64SS := by
  intro B h l x ps k r s' O hm
  unfold t_laws_markInt64SS at hm
  cases c : decide (((pj ps).getD []).length ≤ 4294967296) with
  | false => rw [c] at hm; cases hm
  | true =>
    rw [c, cond_true] at hm
    have hc := of_decide_eq_true c
    cases ps with
    | none =>
      cases hm
      have hx := D2.nil O
      subst hx
      refine ⟨h, none, ?_, rfl, O⟩
      rw [e_laws_markInt64SS, loopP.eq_1]
      simp [e_lb0_laws_markInt64SS, e_lk0x0_laws_markInt64SS, restr]
    | some q =>
      change obind (mkL (q.map Prod.fst) k) (fun q => some (q.1, some q.2)) = some (r, s') at hm
      cases e2 : mkL (q.map Prod.fst) k with
      | none => rw [e2] at hm; cases hm
      | some p2 =>
        obtain ⟨r2, t2⟩ := p2
        rw [e2] at hm
        cases hm
        obtain ⟨h1, q1, f1, f2, f3⟩ := lp_laws_markInt64SS (y2 := und) (y3 := und) (y4 := iv 0) (y18 := und) q.length 0 q k r2 t2 h (by omega) (by simpa [pj] using hc) O e2
        refine ⟨h1, some q1, ?_, by simpa [pj] using f2, f3⟩
        rw [e_laws_markInt64SS]
        exact f1

/-- Marks in a list of symbols. -/
def mkSy : Nat → Nat → List Symbol
  | _, 0 => []
  | k, n + 1 => ⟨markT k, ⟨((k + 1 : Nat) : Int), ((k + 2 : Nat) : Int), ((k + 3 : Nat) : Int), ((k + 4 : Nat) : Int)⟩⟩ :: mkSy (k + 5) n
theorem mkSy_len : ∀ (n k : Nat), (mkSy k n).length = n
  | 0, _ => rfl
  | n + 1, k => by simp [mkSy, mkSy_len n]
def t_laws_markSymbolS (s : Sl Symbol) (k : Int) : Option (Int × Sl Symbol) := bif decide (0 ≤ k) && decide (k + 5 * ((s.getD []).length : Nat) ≤ 100000000) then some (k + 5 * ((s.getD []).length : Nat), s.map fun l => mkSy k.toNat l.length) else none

theorem mrows_Sy : ∀ (n k : Nat), mrows [true, false, false, false, false] k n = (mkSy k n).map Row.cells
  | 0, _ => rfl
  | n + 1, k => by
    have ih := mrows_Sy n (k + 5)
    show [sv (markT k), iv ((k + 1 : Nat) : Int), iv ((k + 1 + 1 : Nat) : Int), iv ((k + 1 + 1 + 1 : Nat) : Int), iv ((k + 1 + 1 + 1 + 1 : Nat) : Int)] :: mrows [true, false, false, false, false] (k + 5) n = [sv (markT k), iv ((k + 1 : Nat) : Int), iv ((k + 2 : Nat) : Int), iv ((k + 3 : Nat) : Int), iv ((k + 4 : Nat) : Int)] :: (mkSy (k + 5) n).map Row.cells
    rw [ih]
theorem mk_laws_markSymbolS : MarkOK (denFn Try.prog ev_laws_markSymbolS n_laws_markSymbolS) t_laws_markSymbolS := by
  have he : ev_laws_markSymbolS n_laws_markText = .pure (G1 (fun k : Int => decide (0 ≤ k) && decide (k ≤ 100000000)) fun k => sv (markT k.toNat)) := by simp [ev_laws_markSymbolS, envL]
  intro s k r s' h
  unfold t_laws_markSymbolS at h
  cases c : decide (0 ≤ k) && decide (k + 5 * ((s.getD []).length : Nat) ≤ 100000000) with
  | false => rw [c] at h; cases h
  | true =>
    rw [c] at h
    simp only [cond_true, Option.some.injEq, Prod.mk.injEq] at h
    obtain ⟨rfl, rfl⟩ := h
    simp only [Bool.and_eq_true, decide_eq_true_eq] at c
    obtain ⟨m, rfl⟩ := Int.eq_ofNat_of_zero_le c.1
    cases s with
    | none =>
      refine .inl ⟨rfl, rfl, fun h => ?_⟩
      rw [e_laws_markSymbolS, loopP.eq_1]
      simp [e_lb0_laws_markSymbolS, e_lk0x0_laws_markSymbolS, restr]
    | some l =>
      refine .inr ⟨l, mkSy m l.length, rfl, rfl, mkSy_len _ _, fun o h ho => ?_⟩
      have g := gen_laws_markSymbolS ev_laws_markSymbolS he (l.map Row.cells) o l.length (by simp) (by simp only [Option.getD_some] at c; omega) (fun r hr => by
        obtain ⟨a, _, rfl⟩ := List.mem_map.1 hr
        rfl) m (by simp only [Option.getD_some] at c; omega) h ho
      rw [mrows_Sy] at g
      rw [g]
      simp only [Option.getD_some]
      congr 3

def s0_laws_eqInt64S (a_ : Sl Int) (b_ : Sl Int) : Int → Option (Sum Int (Sum Unit Bool)) := fun w4 =>
  bif decide (w4 < (((a_.getD []).length : Nat) : Int)) then
    obind (getI (a_.getD []) w4) fun a14 =>
    obind (getI (b_.getD []) w4) fun a18 =>
    bif !decide (a14 = a18) then
      some (.inr (.inr false))
    else
      some (.inl (wr (w4 + 1)))
  else
    some (.inr (.inl ()))
def t_laws_eqInt64S (a_ : Sl Int) (b_ : Sl Int) : Option Bool :=
  bif !decide ((((a_.getD []).length : Nat) : Int) = (((b_.getD []).length : Nat) : Int)) then
    some false
  else
    obind (loopT (s0_laws_eqInt64S a_ b_) 0) fun qq27 => match qq27 with
    | (.inl _) =>
        some true
    | (.inr q11) =>
        some q11

theorem tl0_laws_eqInt64S (env : Nat → Contract) {B : Base}  (a_ : Sl Int) (b_ : Sl Int)  {st : Int} {tm : TM} {h : Heap} (R : (fun (st : Int) tm h2 => match st with | w4 => tm = [Sl.enc a_, Sl.enc b_, und, und, AV.top, iv w4, Sl.enc a_, iv (((a_.getD []).length : Nat) : Int), Sl.enc b_, iv (((b_.getD []).length : Nat) : Int), bv (!decide ((((a_.getD []).length : Nat) : Int) = (((b_.getD []).length : Nat) : Int))), AV.top, AV.top, AV.top, AV.top, AV.top, AV.top, AV.top, AV.top, AV.top, AV.top, AV.top, AV.top, AV.top, AV.top, AV.top] ∧ Hold B h2 []) st tm h) : Sim (loopP hm0_laws_eqInt64S xm0_laws_eqInt64S (lb0_laws_eqInt64S env) tm h) (loopT (s0_laws_eqInt64S a_ b_) st) (fun (q : Sum Unit Bool) (r : Res) => match q with | .inl _ => ∃ (q8 : Int) (z7 : AV) (h5 : Heap), r = (.exit 0, [Sl.enc a_, Sl.enc b_, und, und, z7, iv q8, Sl.enc a_, iv (((a_.getD []).length : Nat) : Int), Sl.enc b_, iv (((b_.getD []).length : Nat) : Int), bv (!decide ((((a_.getD []).length : Nat) : Int) = (((b_.getD []).length : Nat) : Int))), AV.top, AV.top, AV.top, AV.top, AV.top, AV.top, AV.top, AV.top, AV.top, AV.top, AV.top, AV.top, AV.top, AV.top, AV.top], h5) ∧ Hold B h5 [] | .inr q11 => ∃ (q12 : Int) (h9 : Heap), r = (.ret, [Sl.enc a_, Sl.enc b_, und, und, bv q11, iv q12, Sl.enc a_, iv (((a_.getD []).length : Nat) : Int), Sl.enc b_, iv (((b_.getD []).length : Nat) : Int), bv (!decide ((((a_.getD []).length : Nat) : Int) = (((b_.getD []).length : Nat) : Int))), AV.top, AV.top, AV.top, AV.top, AV.top, AV.top, AV.top, AV.top, AV.top, AV.top, AV.top, AV.top, AV.top, AV.top, AV.top], h9) ∧ Hold B h9 []) := by
  refine loop_sim (Rel := fun (st : Int) tm h2 => match st with | w4 => tm = [Sl.enc a_, Sl.enc b_, und, und, AV.top, iv w4, Sl.enc a_, iv (((a_.getD []).length : Nat) : Int), Sl.enc b_, iv (((b_.getD []).length : Nat) : Int), bv (!decide ((((a_.getD []).length : Nat) : Int) = (((b_.getD []).length : Nat) : Int))), AV.top, AV.top, AV.top, AV.top, AV.top, AV.top, AV.top, AV.top, AV.top, AV.top, AV.top, AV.top, AV.top, AV.top, AV.top] ∧ Hold B h2 []) (fun w4 tm h2 R => ?_) R
  obtain ⟨rfl, O3⟩ := R
  rw [e_lb0_laws_eqInt64S]
  unfold s0_laws_eqInt64S
  dsimp only
  refine sim_let (v := iv (((a_.getD []).length : Nat) : Int)) (Tab.enc h2 a_).len ?_
  refine sim_let (v := bv (decide (w4 < (((a_.getD []).length : Nat) : Int)))) (aBin_lss _ _) ?_
  refine sim_cond (fun c13 => ?_) (fun c13 => ?_)
  · refine sim_get (Tab.enc h2 a_) (fun m15 a14 hi16 hm17 => ?_)
    refine sim_let (v := iv a14) ((Tab.enc h2 a_).ld hm17 false 1 0) ?_
    refine sim_get (Tab.enc h2 b_) (fun m19 a18 hi20 hm21 => ?_)
    refine sim_let (v := iv a18) ((Tab.enc h2 b_).ld hm21 false 1 0) ?_
    refine sim_let (v := bv (!decide (a14 = a18))) (aCmp_ne _ _) ?_
    refine sim_cond (fun c22 => ?_) (fun c22 => ?_)
    · exact sim_ret ⟨nofun, _, _, rfl, O3⟩
    · refine sim_let (v := iv (wr (w4 + 1))) (aBin_add _ _) ?_
      exact sim_ret ⟨rfl, rfl, O3⟩
  · exact sim_ret ⟨nofun, _, _, _, rfl, O3⟩
theorem ts_laws_eqInt64S (env : Nat → Contract)  (a_ : Sl Int) (b_ : Sl Int) : Sim (denFn Try.prog env n_laws_eqInt64S [Sl.enc a_, Sl.enc b_] []) (t_laws_eqInt64S a_ b_) fun c p => release p.2 depth p.1 = some ((fun c : Bool => enc c) c) := by
  have O := Hold.nil []
  generalize hB : (⟨[], []⟩ : Base) = B at O
  clear hB
  rw [e_laws_eqInt64S]
  unfold t_laws_eqInt64S
  refine sim_let (v := iv (((a_.getD []).length : Nat) : Int)) (Tab.enc [] a_).len ?_
  refine sim_let (v := iv (((b_.getD []).length : Nat) : Int)) (Tab.enc [] b_).len ?_
  refine sim_let (v := bv (!decide ((((a_.getD []).length : Nat) : Int) = (((b_.getD []).length : Nat) : Int)))) (aCmp_ne _ _) ?_
  refine sim_cond (fun c1 => ?_) (fun c1 => ?_)
  · exact sim_ret (release_plain (by rfl) _)
  · refine sim_bind ((tl0_laws_eqInt64S env a_ b_) ⟨rfl, O⟩) (fun qq27 r hq => ?_)
    rcases qq27 with _ | q11
    · obtain ⟨q8, z7, h5, rfl, O6⟩ := hq
      rw [e_lk0x0_laws_eqInt64S]
      exact sim_ret (release_plain (by rfl) _)
    · obtain ⟨q12, h9, rfl, O10⟩ := hq
      rw [e_lk0r_laws_eqInt64S]
      exact sim_ret (release_plain (by rfl) _)
theorem tt_laws_eqInt64S : PureOK Try.prog n_laws_eqInt64S (C2 (fun c : Bool => enc c) t_laws_eqInt64S) := pureC2 E0 mixed hb_laws_eqInt64S fun a_ b_ => ts_laws_eqInt64S _  a_ b_

def s0_laws_heldInt64S (a_ : Sl Int) : (Int × Int) → Option (Sum (Int × Int) (Sum Int Int)) := fun (w3, w4) =>
  bif decide (w4 < (((a_.getD []).length : Nat) : Int)) then
    obind (getI (a_.getD []) w4) fun a16 =>
    bif !decide (a16 = w3) then
      some (.inr (.inr (-1)))
    else
      some (.inl (wr (w3 + 1), wr (w4 + 1)))
  else
    some (.inr (.inl w3))
def t_laws_heldInt64S (a_ : Sl Int) (k_ : Int) : Option Int :=
  obind (loopT (s0_laws_heldInt64S a_) (k_, 0)) fun qq25 => match qq25 with
  | (.inl q7) =>
      some q7
  | (.inr q13) =>
      some q13

theorem tl0_laws_heldInt64S (env : Nat → Contract) {B : Base}  (a_ : Sl Int)  {st : Int × Int} {tm : TM} {h : Heap} (R : (fun (st : Int × Int) tm h1 => match st with | (w3, w4) => tm = [Sl.enc a_, iv w3, und, und, AV.top, iv w4, AV.top, AV.top, AV.top, AV.top, AV.top, AV.top, AV.top, AV.top, AV.top, AV.top, AV.top, AV.top, AV.top, AV.top, und] ∧ Hold B h1 []) st tm h) : Sim (loopP hm0_laws_heldInt64S xm0_laws_heldInt64S (lb0_laws_heldInt64S env) tm h) (loopT (s0_laws_heldInt64S a_) st) (fun (q : Sum Int Int) (r : Res) => match q with | .inl q7 => ∃ (q9 : Int) (z8 : AV) (h5 : Heap), r = (.exit 0, [Sl.enc a_, iv q7, und, und, z8, iv q9, AV.top, AV.top, AV.top, AV.top, AV.top, AV.top, AV.top, AV.top, AV.top, AV.top, AV.top, AV.top, AV.top, AV.top, und], h5) ∧ Hold B h5 [] | .inr q13 => ∃ (q12 : Int) (q14 : Int) (h10 : Heap), r = (.ret, [Sl.enc a_, iv q12, und, und, iv q13, iv q14, AV.top, AV.top, AV.top, AV.top, AV.top, AV.top, AV.top, AV.top, AV.top, AV.top, AV.top, AV.top, AV.top, AV.top, und], h10) ∧ Hold B h10 []) := by
  refine loop_sim (Rel := fun (st : Int × Int) tm h1 => match st with | (w3, w4) => tm = [Sl.enc a_, iv w3, und, und, AV.top, iv w4, AV.top, AV.top, AV.top, AV.top, AV.top, AV.top, AV.top, AV.top, AV.top, AV.top, AV.top, AV.top, AV.top, AV.top, und] ∧ Hold B h1 []) (fun st tm h1 R => ?_) R
  obtain ⟨w3, w4⟩ := st
  obtain ⟨rfl, O2⟩ := R
  rw [e_lb0_laws_heldInt64S]
  unfold s0_laws_heldInt64S
  dsimp only
  refine sim_let (v := iv (((a_.getD []).length : Nat) : Int)) (Tab.enc h1 a_).len ?_
  refine sim_let (v := bv (decide (w4 < (((a_.getD []).length : Nat) : Int)))) (aBin_lss _ _) ?_
  refine sim_cond (fun c15 => ?_) (fun c15 => ?_)
  · refine sim_get (Tab.enc h1 a_) (fun m17 a16 hi18 hm19 => ?_)
    refine sim_let (v := iv a16) ((Tab.enc h1 a_).ld hm19 false 1 0) ?_
    refine sim_let (v := bv (!decide (a16 = w3))) (aCmp_ne _ _) ?_
    refine sim_cond (fun c20 => ?_) (fun c20 => ?_)
    · exact sim_ret ⟨nofun, _, _, _, rfl, O2⟩
    · refine sim_let (v := iv (wr (w3 + 1))) (aBin_add _ _) ?_
      refine sim_let (v := iv (wr (w4 + 1))) (aBin_add _ _) ?_
      exact sim_ret ⟨rfl, rfl, O2⟩
  · exact sim_ret ⟨nofun, _, _, _, rfl, O2⟩
theorem ts_laws_heldInt64S (env : Nat → Contract)  (a_ : Sl Int) (k_ : Int) : Sim (denFn Try.prog env n_laws_heldInt64S [Sl.enc a_, iv k_] []) (t_laws_heldInt64S a_ k_) fun c p => release p.2 depth p.1 = some ((fun c : Int => enc c) c) := by
  have O := Hold.nil []
  generalize hB : (⟨[], []⟩ : Base) = B at O
  clear hB
  rw [e_laws_heldInt64S]
  unfold t_laws_heldInt64S
  refine sim_bind ((tl0_laws_heldInt64S env a_) ⟨rfl, O⟩) (fun qq25 r hq => ?_)
  rcases qq25 with q7 | q13
  · obtain ⟨q9, z8, h5, rfl, O6⟩ := hq
    rw [e_lk0x0_laws_heldInt64S]
    exact sim_ret (release_plain (by rfl) _)
  · obtain ⟨q12, q14, h10, rfl, O11⟩ := hq
    rw [e_lk0r_laws_heldInt64S]
    exact sim_ret (release_plain (by rfl) _)
theorem tt_laws_heldInt64S : PureOK Try.prog n_laws_heldInt64S (C2 (fun c : Int => enc c) t_laws_heldInt64S) := pureC2 E0 mixed hb_laws_heldInt64S fun a_ k_ => ts_laws_heldInt64S _  a_ k_

def s0_laws_eqInt64SS (a_ : Sl (Sl Int)) (b_ : Sl (Sl Int)) : Int → Option (Sum Int (Sum Unit Bool)) := fun w4 =>
  bif decide (w4 < (((a_.getD []).length : Nat) : Int)) then
    obind (getI (a_.getD []) w4) fun a14 =>
    obind (getI (b_.getD []) w4) fun a18 =>
    obind (t_laws_eqInt64S a14 a18) fun c22 =>
    bif !c22 then
      some (.inr (.inr false))
    else
      some (.inl (wr (w4 + 1)))
  else
    some (.inr (.inl ()))
def t_laws_eqInt64SS (a_ : Sl (Sl Int)) (b_ : Sl (Sl Int)) : Option Bool :=
  bif !decide ((((a_.getD []).length : Nat) : Int) = (((b_.getD []).length : Nat) : Int)) then
    some false
  else
    obind (loopT (s0_laws_eqInt64SS a_ b_) 0) fun qq28 => match qq28 with
    | (.inl _) =>
        some true
    | (.inr q11) =>
        some q11

theorem tl0_laws_eqInt64SS (env : Nat → Contract) {B : Base} (he_laws_eqInt64S : env n_laws_eqInt64S = .pure (C2 (fun c : Bool => enc c) t_laws_eqInt64S)) (a_ : Sl (Sl Int)) (b_ : Sl (Sl Int))  {st : Int} {tm : TM} {h : Heap} (R : (fun (st : Int) tm h2 => match st with | w4 => tm = [Sl.enc a_, Sl.enc b_, und, und, AV.top, iv w4, Sl.enc a_, iv (((a_.getD []).length : Nat) : Int), Sl.enc b_, iv (((b_.getD []).length : Nat) : Int), bv (!decide ((((a_.getD []).length : Nat) : Int) = (((b_.getD []).length : Nat) : Int))), AV.top, AV.top, AV.top, AV.top, AV.top, AV.top, AV.top, AV.top, AV.top, AV.top, AV.top, AV.top, AV.top, AV.top, AV.top, AV.top] ∧ Hold B h2 []) st tm h) : Sim (loopP hm0_laws_eqInt64SS xm0_laws_eqInt64SS (lb0_laws_eqInt64SS env) tm h) (loopT (s0_laws_eqInt64SS a_ b_) st) (fun (q : Sum Unit Bool) (r : Res) => match q with | .inl _ => ∃ (q8 : Int) (z7 : AV) (h5 : Heap), r = (.exit 0, [Sl.enc a_, Sl.enc b_, und, und, z7, iv q8, Sl.enc a_, iv (((a_.getD []).length : Nat) : Int), Sl.enc b_, iv (((b_.getD []).length : Nat) : Int), bv (!decide ((((a_.getD []).length : Nat) : Int) = (((b_.getD []).length : Nat) : Int))), AV.top, AV.top, AV.top, AV.top, AV.top, AV.top, AV.top, AV.top, AV.top, AV.top, AV.top, AV.top, AV.top, AV.top, AV.top, AV.top], h5) ∧ Hold B h5 [] | .inr q11 => ∃ (q12 : Int) (h9 : Heap), r = (.ret, [Sl.enc a_, Sl.enc b_, und, und, bv q11, iv q12, Sl.enc a_, iv (((a_.getD []).length : Nat) : Int), Sl.enc b_, iv (((b_.getD []).length : Nat) : Int), bv (!decide ((((a_.getD []).length : Nat) : Int) = (((b_.getD []).length : Nat) : Int))), AV.top, AV.top, AV.top, AV.top, AV.top, AV.top, AV.top, AV.top, AV.top, AV.top, AV.top, AV.top, AV.top, AV.top, AV.top, AV.top], h9) ∧ Hold B h9 []) := by
  refine loop_sim (Rel := fun (st : Int) tm h2 => match st with | w4 => tm = [Sl.enc a_, Sl.enc b_, und, und, AV.top, iv w4, Sl.enc a_, iv (((a_.getD []).length : Nat) : Int), Sl.enc b_, iv (((b_.getD []).length : Nat) : Int), bv (!decide ((((a_.getD []).length : Nat) : Int) = (((b_.getD []).length : Nat) : Int))), AV.top, AV.top, AV.top, AV.top, AV.top, AV.top, AV.top, AV.top, AV.top, AV.top, AV.top, AV.top, AV.top, AV.top, AV.top, AV.top] ∧ Hold B h2 []) (fun w4 tm h2 R => ?_) R
  obtain ⟨rfl, O3⟩ := R
  rw [e_lb0_laws_eqInt64SS]
  unfold s0_laws_eqInt64SS
  dsimp only
  refine sim_let (v := iv (((a_.getD []).length : Nat) : Int)) (Tab.enc h2 a_).len ?_
  refine sim_let (v := bv (decide (w4 < (((a_.getD []).length : Nat) : Int)))) (aBin_lss _ _) ?_
  refine sim_cond (fun c13 => ?_) (fun c13 => ?_)
  · refine sim_get (Tab.enc h2 a_) (fun m15 a14 hi16 hm17 => ?_)
    refine sim_let (v := Sl.enc a14) ((Tab.enc h2 a_).ld hm17 false 1 0) ?_
    refine sim_get (Tab.enc h2 b_) (fun m19 a18 hi20 hm21 => ?_)
    refine sim_let (v := Sl.enc a18) ((Tab.enc h2 b_).ld hm21 false 1 0) ?_
    refine sim_callQ2 he_laws_eqInt64S (snapD_enc _ _) (snapD_enc _ _) (fun c22 => ?_)
    refine sim_let2 (hand_plain (by rfl) _ _) ?_
    refine sim_let (v := bv (!c22)) (aUn_not _) ?_
    refine sim_cond (fun c23 => ?_) (fun c23 => ?_)
    · exact sim_ret ⟨nofun, _, _, rfl, O3⟩
    · refine sim_let (v := iv (wr (w4 + 1))) (aBin_add _ _) ?_
      exact sim_ret ⟨rfl, rfl, O3⟩
  · exact sim_ret ⟨nofun, _, _, _, rfl, O3⟩
theorem ts_laws_eqInt64SS (env : Nat → Contract) (he_laws_eqInt64S : env n_laws_eqInt64S = .pure (C2 (fun c : Bool => enc c) t_laws_eqInt64S)) (a_ : Sl (Sl Int)) (b_ : Sl (Sl Int)) : Sim (denFn Try.prog env n_laws_eqInt64SS [Sl.enc a_, Sl.enc b_] []) (t_laws_eqInt64SS a_ b_) fun c p => release p.2 depth p.1 = some ((fun c : Bool => enc c) c) := by
  have O := Hold.nil []
  generalize hB : (⟨[], []⟩ : Base) = B at O
  clear hB
  rw [e_laws_eqInt64SS]
  unfold t_laws_eqInt64SS
  refine sim_let (v := iv (((a_.getD []).length : Nat) : Int)) (Tab.enc [] a_).len ?_
  refine sim_let (v := iv (((b_.getD []).length : Nat) : Int)) (Tab.enc [] b_).len ?_
  refine sim_let (v := bv (!decide ((((a_.getD []).length : Nat) : Int) = (((b_.getD []).length : Nat) : Int)))) (aCmp_ne _ _) ?_
  refine sim_cond (fun c1 => ?_) (fun c1 => ?_)
  · exact sim_ret (release_plain (by rfl) _)
  · refine sim_bind ((tl0_laws_eqInt64SS env he_laws_eqInt64S a_ b_) ⟨rfl, O⟩) (fun qq28 r hq => ?_)
    rcases qq28 with _ | q11
    · obtain ⟨q8, z7, h5, rfl, O6⟩ := hq
      rw [e_lk0x0_laws_eqInt64SS]
      exact sim_ret (release_plain (by rfl) _)
    · obtain ⟨q12, h9, rfl, O10⟩ := hq
      rw [e_lk0r_laws_eqInt64SS]
      exact sim_ret (release_plain (by rfl) _)
theorem tt_laws_eqInt64SS : PureOK Try.prog n_laws_eqInt64SS (C2 (fun c : Bool => enc c) t_laws_eqInt64SS) := pureC2 (Econs tt_laws_eqInt64S E0) mixed hb_laws_eqInt64SS fun a_ b_ => ts_laws_eqInt64SS _ (by simp [envL]) a_ b_

def s0_laws_heldInt64SS (a_ : Sl (Sl Int)) : (Int × Int) → Option (Sum (Int × Int) (Sum Int Int)) := fun (w3, w4) =>
  bif decide (w4 < (((a_.getD []).length : Nat) : Int)) then
    obind (getI (a_.getD []) w4) fun a16 =>
    obind (t_laws_heldInt64S a16 w3) fun c20 =>
    bif decide (c20 < 0) then
      some (.inr (.inr (-1)))
    else
      some (.inl (c20, wr (w4 + 1)))
  else
    some (.inr (.inl w3))
def t_laws_heldInt64SS (a_ : Sl (Sl Int)) (k_ : Int) : Option Int :=
  obind (loopT (s0_laws_heldInt64SS a_) (k_, 0)) fun qq26 => match qq26 with
  | (.inl q7) =>
      some q7
  | (.inr q13) =>
      some q13

theorem tl0_laws_heldInt64SS (env : Nat → Contract) {B : Base} (he_laws_heldInt64S : env n_laws_heldInt64S = .pure (C2 (fun c : Int => enc c) t_laws_heldInt64S)) (a_ : Sl (Sl Int))  {st : Int × Int} {tm : TM} {h : Heap} (R : (fun (st : Int × Int) tm h1 => match st with | (w3, w4) => tm = [Sl.enc a_, iv w3, und, und, AV.top, iv w4, AV.top, AV.top, AV.top, AV.top, AV.top, AV.top, AV.top, AV.top, AV.top, AV.top, AV.top, AV.top, AV.top, AV.top, und] ∧ Hold B h1 []) st tm h) : Sim (loopP hm0_laws_heldInt64SS xm0_laws_heldInt64SS (lb0_laws_heldInt64SS env) tm h) (loopT (s0_laws_heldInt64SS a_) st) (fun (q : Sum Int Int) (r : Res) => match q with | .inl q7 => ∃ (q9 : Int) (z8 : AV) (h5 : Heap), r = (.exit 0, [Sl.enc a_, iv q7, und, und, z8, iv q9, AV.top, AV.top, AV.top, AV.top, AV.top, AV.top, AV.top, AV.top, AV.top, AV.top, AV.top, AV.top, AV.top, AV.top, und], h5) ∧ Hold B h5 [] | .inr q13 => ∃ (q12 : Int) (q14 : Int) (h10 : Heap), r = (.ret, [Sl.enc a_, iv q12, und, und, iv q13, iv q14, AV.top, AV.top, AV.top, AV.top, AV.top, AV.top, AV.top, AV.top, AV.top, AV.top, AV.top, AV.top, AV.top, AV.top, und], h10) ∧ Hold B h10 []) := by
  refine loop_sim (Rel := fun (st : Int × Int) tm h1 => match st with | (w3, w4) => tm = [Sl.enc a_, iv w3, und, und, AV.top, iv w4, AV.top, AV.top, AV.top, AV.top, AV.top, AV.top, AV.top, AV.top, AV.top, AV.top, AV.top, AV.top, AV.top, AV.top, und] ∧ Hold B h1 []) (fun st tm h1 R => ?_) R
  obtain ⟨w3, w4⟩ := st
  obtain ⟨rfl, O2⟩ := R
  rw [e_lb0_laws_heldInt64SS]
  unfold s0_laws_heldInt64SS
  dsimp only
  refine sim_let (v := iv (((a_.getD []).length : Nat) : Int)) (Tab.enc h1 a_).len ?_
  refine sim_let (v := bv (decide (w4 < (((a_.getD []).length : Nat) : Int)))) (aBin_lss _ _) ?_
  refine sim_cond (fun c15 => ?_) (fun c15 => ?_)
  · refine sim_get (Tab.enc h1 a_) (fun m17 a16 hi18 hm19 => ?_)
    refine sim_let (v := Sl.enc a16) ((Tab.enc h1 a_).ld hm19 false 1 0) ?_
    refine sim_call2 he_laws_heldInt64S (snapD_enc _ _) (snapD_int _ _) (fun c20 => ?_)
    refine sim_let2 (hand_plain (by rfl) _ _) ?_
    refine sim_let (v := bv (decide (c20 < 0))) (aBin_lss _ _) ?_
    refine sim_cond (fun c21 => ?_) (fun c21 => ?_)
    · exact sim_ret ⟨nofun, _, _, _, rfl, O2⟩
    · refine sim_let (v := iv (wr (w4 + 1))) (aBin_add _ _) ?_
      exact sim_ret ⟨rfl, rfl, O2⟩
  · exact sim_ret ⟨nofun, _, _, _, rfl, O2⟩
theorem ts_laws_heldInt64SS (env : Nat → Contract) (he_laws_heldInt64S : env n_laws_heldInt64S = .pure (C2 (fun c : Int => enc c) t_laws_heldInt64S)) (a_ : Sl (Sl Int)) (k_ : Int) : Sim (denFn Try.prog env n_laws_heldInt64SS [Sl.enc a_, iv k_] []) (t_laws_heldInt64SS a_ k_) fun c p => release p.2 depth p.1 = some ((fun c : Int => enc c) c) := by
  have O := Hold.nil []
  generalize hB : (⟨[], []⟩ : Base) = B at O
  clear hB
  rw [e_laws_heldInt64SS]
  unfold t_laws_heldInt64SS
  refine sim_bind ((tl0_laws_heldInt64SS env he_laws_heldInt64S a_) ⟨rfl, O⟩) (fun qq26 r hq => ?_)
  rcases qq26 with q7 | q13
  · obtain ⟨q9, z8, h5, rfl, O6⟩ := hq
    rw [e_lk0x0_laws_heldInt64SS]
    exact sim_ret (release_plain (by rfl) _)
  · obtain ⟨q12, q14, h10, rfl, O11⟩ := hq
    rw [e_lk0r_laws_heldInt64SS]
    exact sim_ret (release_plain (by rfl) _)
theorem tt_laws_heldInt64SS : PureOK Try.prog n_laws_heldInt64SS (C2 (fun c : Int => enc c) t_laws_heldInt64SS) := pureC2 (Econs tt_laws_heldInt64S E0) mixed hb_laws_heldInt64SS fun a_ k_ => ts_laws_heldInt64SS _ (by simp [envL]) a_ k_

def t_laws_szSymbol (a_ : Symbol) (left_ : Int) : Option Int :=
  bif decide ((wr (left_ - (a_.label.size : Int))) < 0) then
    some (-1)
  else
    some (wr (left_ - (a_.label.size : Int)))

theorem ts_laws_szSymbol (env : Nat → Contract)  (a_ : Symbol) (left_ : Int) : Sim (denFn Try.prog env n_laws_szSymbol [AV.agg [sv a_.label, iv a_.box.x1, iv a_.box.y1, iv a_.box.x2, iv a_.box.y2], iv left_] []) (t_laws_szSymbol a_ left_) fun c p => release p.2 depth p.1 = some ((fun c : Int => enc c) c) := by
  have O := Hold.nil []
  generalize hB : (⟨[], []⟩ : Base) = B at O
  clear hB
  rw [e_laws_szSymbol]
  unfold t_laws_szSymbol
  refine sim_box O (cs := [sv a_.label, iv a_.box.x1, iv a_.box.y1, iv a_.box.x2, iv a_.box.y2]) (by first | rfl | simp) (fun o1 h2 O3 => ?_)
  replace O3 : Hold B h2 [(AV.ptr o1 1 0 0, .pt 5 [sv a_.label, iv a_.box.x1, iv a_.box.y1, iv a_.box.x2, iv a_.box.y2])] := O3
  refine sim_let (v := AV.ptr o1 1 0 0) rfl ?_
  refine sim_let (v := sv a_.label) (O3.ld 0 rfl false 1 0) ?_
  refine sim_let (v := iv (a_.label.size : Int)) rfl ?_
  refine sim_let (v := iv (wr (left_ - (a_.label.size : Int)))) (aBin_sub _ _) ?_
  refine sim_let (v := bv (decide ((wr (left_ - (a_.label.size : Int))) < 0))) (aBin_lss _ _) ?_
  refine sim_cond (fun c5 => ?_) (fun c5 => ?_)
  · exact sim_ret (release_plain (by rfl) _)
  · exact sim_ret (release_plain (by rfl) _)
theorem tt_laws_szSymbol : PureOK Try.prog n_laws_szSymbol (C2 (fun c : Int => enc c) t_laws_szSymbol) := pureC2 E0 mixed hb_laws_szSymbol fun a_ left_ => ts_laws_szSymbol _  a_ left_

def s0_laws_szSymbolS (a_ : Sl Symbol) : (Int × Int) → Option (Sum (Int × Int) (Sum Int Int)) := fun (w4, w5) =>
  bif decide (w5 < (((a_.getD []).length : Nat) : Int)) then
    obind (getI (a_.getD []) w5) fun a17 =>
    obind (t_laws_szSymbol a17 w4) fun c21 =>
    bif decide (c21 < 0) then
      some (.inr (.inr (-1)))
    else
      some (.inl (c21, wr (w5 + 1)))
  else
    some (.inr (.inl w4))
def t_laws_szSymbolS (a_ : Sl Symbol) (left_ : Int) : Option Int :=
  bif decide ((wr (left_ - (((a_.getD []).length : Nat) : Int))) < 0) then
    some (-1)
  else
    obind (loopT (s0_laws_szSymbolS a_) (wr (left_ - (((a_.getD []).length : Nat) : Int)), 0)) fun qq27 => match qq27 with
    | (.inl q8) =>
        some q8
    | (.inr q14) =>
        some q14

theorem tl0_laws_szSymbolS (env : Nat → Contract) {B : Base} (he_laws_szSymbol : env n_laws_szSymbol = .pure (C2 (fun c : Int => enc c) t_laws_szSymbol)) (a_ : Sl Symbol) (left_ : Int)  {st : Int × Int} {tm : TM} {h : Heap} (R : (fun (st : Int × Int) tm h2 => match st with | (w4, w5) => tm = [Sl.enc a_, iv w4, und, und, AV.top, iv w5, iv left_, Sl.enc a_, iv (((a_.getD []).length : Nat) : Int), iv (wr (left_ - (((a_.getD []).length : Nat) : Int))), iv (wr (left_ - (((a_.getD []).length : Nat) : Int))), bv (decide ((wr (left_ - (((a_.getD []).length : Nat) : Int))) < 0)), AV.top, AV.top, AV.top, AV.top, AV.top, AV.top, AV.top, AV.top, AV.top, AV.top, AV.top, AV.top, AV.top, AV.top, und] ∧ Hold B h2 []) st tm h) : Sim (loopP hm0_laws_szSymbolS xm0_laws_szSymbolS (lb0_laws_szSymbolS env) tm h) (loopT (s0_laws_szSymbolS a_) st) (fun (q : Sum Int Int) (r : Res) => match q with | .inl q8 => ∃ (q10 : Int) (z9 : AV) (h6 : Heap), r = (.exit 0, [Sl.enc a_, iv q8, und, und, z9, iv q10, iv left_, Sl.enc a_, iv (((a_.getD []).length : Nat) : Int), iv (wr (left_ - (((a_.getD []).length : Nat) : Int))), iv (wr (left_ - (((a_.getD []).length : Nat) : Int))), bv (decide ((wr (left_ - (((a_.getD []).length : Nat) : Int))) < 0)), AV.top, AV.top, AV.top, AV.top, AV.top, AV.top, AV.top, AV.top, AV.top, AV.top, AV.top, AV.top, AV.top, AV.top, und], h6) ∧ Hold B h6 [] | .inr q14 => ∃ (q13 : Int) (q15 : Int) (h11 : Heap), r = (.ret, [Sl.enc a_, iv q13, und, und, iv q14, iv q15, iv left_, Sl.enc a_, iv (((a_.getD []).length : Nat) : Int), iv (wr (left_ - (((a_.getD []).length : Nat) : Int))), iv (wr (left_ - (((a_.getD []).length : Nat) : Int))), bv (decide ((wr (left_ - (((a_.getD []).length : Nat) : Int))) < 0)), AV.top, AV.top, AV.top, AV.top, AV.top, AV.top, AV.top, AV.top, AV.top, AV.top, AV.top, AV.top, AV.top, AV.top, und], h11) ∧ Hold B h11 []) := by
  refine loop_sim (Rel := fun (st : Int × Int) tm h2 => match st with | (w4, w5) => tm = [Sl.enc a_, iv w4, und, und, AV.top, iv w5, iv left_, Sl.enc a_, iv (((a_.getD []).length : Nat) : Int), iv (wr (left_ - (((a_.getD []).length : Nat) : Int))), iv (wr (left_ - (((a_.getD []).length : Nat) : Int))), bv (decide ((wr (left_ - (((a_.getD []).length : Nat) : Int))) < 0)), AV.top, AV.top, AV.top, AV.top, AV.top, AV.top, AV.top, AV.top, AV.top, AV.top, AV.top, AV.top, AV.top, AV.top, und] ∧ Hold B h2 []) (fun st tm h2 R => ?_) R
  obtain ⟨w4, w5⟩ := st
  obtain ⟨rfl, O3⟩ := R
  rw [e_lb0_laws_szSymbolS]
  unfold s0_laws_szSymbolS
  dsimp only
  refine sim_let (v := iv (((a_.getD []).length : Nat) : Int)) (Tab.enc h2 a_).len ?_
  refine sim_let (v := bv (decide (w5 < (((a_.getD []).length : Nat) : Int)))) (aBin_lss _ _) ?_
  refine sim_cond (fun c16 => ?_) (fun c16 => ?_)
  · refine sim_get (Tab.enc h2 a_) (fun m18 a17 hi19 hm20 => ?_)
    refine sim_let (v := AV.agg [sv a17.label, iv a17.box.x1, iv a17.box.y1, iv a17.box.x2, iv a17.box.y2]) ((Tab.enc h2 a_).ld hm20 true 5 0) ?_
    refine sim_call2 he_laws_szSymbol (snapD_nr _ a17 rfl) (snapD_int _ _) (fun c21 => ?_)
    refine sim_let2 (hand_plain (by rfl) _ _) ?_
    refine sim_let (v := bv (decide (c21 < 0))) (aBin_lss _ _) ?_
    refine sim_cond (fun c22 => ?_) (fun c22 => ?_)
    · exact sim_ret ⟨nofun, _, _, _, rfl, O3⟩
    · refine sim_let (v := iv (wr (w5 + 1))) (aBin_add _ _) ?_
      exact sim_ret ⟨rfl, rfl, O3⟩
  · exact sim_ret ⟨nofun, _, _, _, rfl, O3⟩
theorem ts_laws_szSymbolS (env : Nat → Contract) (he_laws_szSymbol : env n_laws_szSymbol = .pure (C2 (fun c : Int => enc c) t_laws_szSymbol)) (a_ : Sl Symbol) (left_ : Int) : Sim (denFn Try.prog env n_laws_szSymbolS [Sl.enc a_, iv left_] []) (t_laws_szSymbolS a_ left_) fun c p => release p.2 depth p.1 = some ((fun c : Int => enc c) c) := by
  have O := Hold.nil []
  generalize hB : (⟨[], []⟩ : Base) = B at O
  clear hB
  rw [e_laws_szSymbolS]
  unfold t_laws_szSymbolS
  refine sim_let (v := iv (((a_.getD []).length : Nat) : Int)) (Tab.enc [] a_).len ?_
  refine sim_let (v := iv (wr (left_ - (((a_.getD []).length : Nat) : Int)))) (aBin_sub _ _) ?_
  refine sim_let (v := bv (decide ((wr (left_ - (((a_.getD []).length : Nat) : Int))) < 0))) (aBin_lss _ _) ?_
  refine sim_cond (fun c1 => ?_) (fun c1 => ?_)
  · exact sim_ret (release_plain (by rfl) _)
  · refine sim_bind ((tl0_laws_szSymbolS env he_laws_szSymbol a_ left_) ⟨rfl, O⟩) (fun qq27 r hq => ?_)
    rcases qq27 with q8 | q14
    · obtain ⟨q10, z9, h6, rfl, O7⟩ := hq
      rw [e_lk0x0_laws_szSymbolS]
      exact sim_ret (release_plain (by rfl) _)
    · obtain ⟨q13, q15, h11, rfl, O12⟩ := hq
      rw [e_lk0r_laws_szSymbolS]
      exact sim_ret (release_plain (by rfl) _)
theorem tt_laws_szSymbolS : PureOK Try.prog n_laws_szSymbolS (C2 (fun c : Int => enc c) t_laws_szSymbolS) := pureC2 (Econs tt_laws_szSymbol E0) mixed hb_laws_szSymbolS fun a_ left_ => ts_laws_szSymbolS _ (by simp [envL]) a_ left_

def s0_laws_toSymbolS (a_ : Sl Symbol) : ((Sl Symbol) × Int) → Option (Sum ((Sl Symbol) × Int) (Sl Symbol)) := fun (w6, w9) =>
  bif decide (w9 < (((a_.getD []).length : Nat) : Int)) then
    obind (getI (a_.getD []) w9) fun a15 =>
    obind (some ((fun b : Symbol => b) a15)) fun c19 =>
    obind (getI (w6.getD []) w9) fun a20 =>
    some (.inl ((setS w6 w9 c19), wr (w9 + 1)))
  else
    some (.inr w6)
def t_laws_toSymbolS (a_ : Sl Symbol) : Option (Sl Symbol) :=
  obind (makeO (⟨(⟨#[]⟩ : ByteArray), ⟨0, 0, 0, 0⟩⟩ : Symbol) (((a_.getD []).length : Nat) : Int)) fun l5 =>
  obind (loopT (s0_laws_toSymbolS a_) ((some l5), 0)) fun q12 =>
  some q12

theorem tl0_laws_toSymbolS (env : Nat → Contract) {B : Base} (he_laws_toSymbol : env n_laws_toSymbol = .pure (T1 (fun b : Symbol => b))) (a_ : Sl Symbol) (x1 : AV)  {st : (Sl Symbol) × Int} {tm : TM} {h : Heap} (R : (fun (st : (Sl Symbol) × Int) tm h7 => match st with | (w6, w9) => tm = [Sl.enc a_, und, nilS, x1, iv w9, Sl.enc a_, iv (((a_.getD []).length : Nat) : Int), x1, AV.top, AV.top, AV.top, AV.top, AV.top, AV.top, AV.top, AV.top, AV.top, AV.top, AV.top, AV.top, AV.top, AV.top, und] ∧ Hold B h7 [(x1, obS (w6 : Sl Symbol))]) st tm h) : Sim (loopP hm0_laws_toSymbolS xm0_laws_toSymbolS (lb0_laws_toSymbolS env) tm h) (loopT (s0_laws_toSymbolS a_) st) (fun (q : Sl Symbol) (r : Res) => match q with | q12 => ∃ (q13 : Int) (h10 : Heap), r = (.exit 0, [Sl.enc a_, und, nilS, x1, iv q13, Sl.enc a_, iv (((a_.getD []).length : Nat) : Int), x1, AV.top, AV.top, AV.top, AV.top, AV.top, AV.top, AV.top, AV.top, AV.top, AV.top, AV.top, AV.top, AV.top, AV.top, und], h10) ∧ Hold B h10 [(x1, obS (q12 : Sl Symbol))]) := by
  refine loop_sim (Rel := fun (st : (Sl Symbol) × Int) tm h7 => match st with | (w6, w9) => tm = [Sl.enc a_, und, nilS, x1, iv w9, Sl.enc a_, iv (((a_.getD []).length : Nat) : Int), x1, AV.top, AV.top, AV.top, AV.top, AV.top, AV.top, AV.top, AV.top, AV.top, AV.top, AV.top, AV.top, AV.top, AV.top, und] ∧ Hold B h7 [(x1, obS (w6 : Sl Symbol))]) (fun st tm h7 R => ?_) R
  obtain ⟨w6, w9⟩ := st
  obtain ⟨rfl, O8⟩ := R
  rw [e_lb0_laws_toSymbolS]
  unfold s0_laws_toSymbolS
  dsimp only
  refine sim_let (v := iv (((a_.getD []).length : Nat) : Int)) (Tab.enc h7 a_).len ?_
  refine sim_let (v := bv (decide (w9 < (((a_.getD []).length : Nat) : Int)))) (aBin_lss _ _) ?_
  refine sim_cond (fun c14 => ?_) (fun c14 => ?_)
  · refine sim_get (Tab.enc h7 a_) (fun m16 a15 hi17 hm18 => ?_)
    refine sim_let (v := AV.agg [sv a15.label, iv a15.box.x1, iv a15.box.y1, iv a15.box.x2, iv a15.box.y2]) ((Tab.enc h7 a_).ld hm18 true 5 0) ?_
    refine sim_callV1 (t := (fun b : Symbol => b)) he_laws_toSymbol (snapD_nr _ a15 rfl) (fun c19 => ?_)
    refine sim_get (O8.tab (A := Symbol) (s := w6) 0 rfl) (fun m21 a20 hi22 hm23 => ?_)
    refine sim_set (A := Symbol) O8 0 c19 rfl hi22 hm23 rfl (by simp) (by first | rfl | simp) (by first | rfl | simp [splice]) (fun h24 O25 => ?_)
    replace O25 : Hold B h24 [(x1, obS ((setS w6 w9 c19) : Sl Symbol))] := O25
    refine sim_let (v := iv (wr (w9 + 1))) (aBin_add _ _) ?_
    exact sim_ret ⟨rfl, rfl, O25⟩
  · exact sim_ret ⟨nofun, _, _, rfl, O8⟩
theorem ts_laws_toSymbolS (env : Nat → Contract) (he_laws_toSymbol : env n_laws_toSymbol = .pure (T1 (fun b : Symbol => b))) (a_ : Sl Symbol) : Sim (denFn Try.prog env n_laws_toSymbolS [Sl.enc a_] []) (t_laws_toSymbolS a_) fun c p => release p.2 depth p.1 = some ((fun c : (Sl Symbol) => rS c) c) := by
  have O := Hold.nil []
  generalize hB : (⟨[], []⟩ : Base) = B at O
  clear hB
  rw [e_laws_toSymbolS]
  unfold t_laws_toSymbolS
  refine sim_let (v := iv (((a_.getD []).length : Nat) : Int)) (Tab.enc [] a_).len ?_
  refine sim_make (A := Symbol) O (⟨(⟨#[]⟩ : ByteArray), ⟨0, 0, 0, 0⟩⟩ : Symbol) rfl (by decide) (fun l5 x1 h2 O3 => ?_)
  replace O3 : Hold B h2 [(x1, obS ((some l5) : Sl Symbol))] := O3
  refine sim_bind ((tl0_laws_toSymbolS env he_laws_toSymbol a_ x1) ⟨rfl, O3⟩) (fun qq29 r hq => ?_)
  revert hq
  revert qq29
  intro q12 hq
  obtain ⟨q13, h10, rfl, O11⟩ := hq
  rw [e_lk0x0_laws_toSymbolS]
  exact sim_ret (O11.rel (A := Symbol) (s := q12) 0 rfl)
theorem tt_laws_toSymbolS : PureOK Try.prog n_laws_toSymbolS (C1 (fun c : (Sl Symbol) => rS c) t_laws_toSymbolS) := pureC1 (Econs ok_laws_toSymbol E0) mixed hb_laws_toSymbolS fun a_ => ts_laws_toSymbolS _ (by simp [envL]) a_

def s0_spec_l20Ok (list_ : Sl Symbol) : Int → Option (Sum Int (Sum Unit Bool)) := fun w3 =>
  bif decide (w3 < (((list_.getD []).length : Nat) : Int)) then
    obind (getI (list_.getD []) w3) fun a13 =>
    obind (some (isLabel a13.label)) fun c17 =>
    obind (bif !c17 then some false else (obind (getI (list_.getD []) w3) fun a19 => obind (some (validBox a19.box)) fun c23 => some (!c23))) fun c24 =>
    bif (bif !c17 then true else c24) then
      some (.inr (.inr false))
    else
      some (.inl (wr (w3 + 1)))
  else
    some (.inr (.inl ()))
def t_spec_l20Ok (list_ : Sl Symbol) : Option Bool :=
  obind (loopT (s0_spec_l20Ok list_) 0) fun qq30 => match qq30 with
  | (.inl _) =>
      some (decide ((((list_.getD []).length : Nat) : Int) ≤ 8))
  | (.inr q10) =>
      some q10

theorem tl0_spec_l20Ok (env : Nat → Contract) {B : Base} (he_spec_IsLabel : env n_spec_IsLabel = .pure (T1 isLabel)) (he_spec_l02Box : env n_spec_l02Box = .pure (T1 validBox)) (list_ : Sl Symbol)  {st : Int} {tm : TM} {h : Heap} (R : (fun (st : Int) tm h1 => match st with | w3 => tm = [Sl.enc list_, und, AV.top, iv w3, AV.top, AV.top, AV.top, AV.top, AV.top, AV.top, AV.top, AV.top, AV.top, AV.top, AV.top, AV.top, AV.top, AV.top, AV.top, AV.top, AV.top, AV.top, AV.top, AV.top, AV.top, AV.top, und, und, und] ∧ Hold B h1 []) st tm h) : Sim (loopP hm0_spec_l20Ok xm0_spec_l20Ok (lb0_spec_l20Ok env) tm h) (loopT (s0_spec_l20Ok list_) st) (fun (q : Sum Unit Bool) (r : Res) => match q with | .inl _ => ∃ (q7 : Int) (z6 : AV) (h4 : Heap), r = (.exit 0, [Sl.enc list_, und, z6, iv q7, AV.top, AV.top, AV.top, AV.top, AV.top, AV.top, AV.top, AV.top, AV.top, AV.top, AV.top, AV.top, AV.top, AV.top, AV.top, AV.top, AV.top, AV.top, AV.top, AV.top, AV.top, AV.top, und, und, und], h4) ∧ Hold B h4 [] | .inr q10 => ∃ (q11 : Int) (h8 : Heap), r = (.ret, [Sl.enc list_, und, bv q10, iv q11, AV.top, AV.top, AV.top, AV.top, AV.top, AV.top, AV.top, AV.top, AV.top, AV.top, AV.top, AV.top, AV.top, AV.top, AV.top, AV.top, AV.top, AV.top, AV.top, AV.top, AV.top, AV.top, und, und, und], h8) ∧ Hold B h8 []) := by
  refine loop_sim (Rel := fun (st : Int) tm h1 => match st with | w3 => tm = [Sl.enc list_, und, AV.top, iv w3, AV.top, AV.top, AV.top, AV.top, AV.top, AV.top, AV.top, AV.top, AV.top, AV.top, AV.top, AV.top, AV.top, AV.top, AV.top, AV.top, AV.top, AV.top, AV.top, AV.top, AV.top, AV.top, und, und, und] ∧ Hold B h1 []) (fun w3 tm h1 R => ?_) R
  obtain ⟨rfl, O2⟩ := R
  rw [e_lb0_spec_l20Ok]
  unfold s0_spec_l20Ok
  dsimp only
  refine sim_let (v := iv (((list_.getD []).length : Nat) : Int)) (Tab.enc h1 list_).len ?_
  refine sim_let (v := bv (decide (w3 < (((list_.getD []).length : Nat) : Int)))) (aBin_lss _ _) ?_
  refine sim_cond (fun c12 => ?_) (fun c12 => ?_)
  · refine sim_get (Tab.enc h1 list_) (fun m14 a13 hi15 hm16 => ?_)
    refine sim_let (v := elp (Sl.enc list_) m14 0) ((Tab.enc h1 list_).fld _ _ _) ?_
    refine sim_let (v := sv a13.label) ((Tab.enc h1 list_).ld hm16 false 1 0) ?_
    refine sim_callV1 (t := isLabel) he_spec_IsLabel (snapD_str _ _) (fun c17 => ?_)
    refine sim_let (v := bv (!c17)) (aUn_not _) ?_
    refine sim_guardF (e := bv) (fun hb18 => ?_) (fun c24 => ?_)
    · refine sim_get (Tab.enc h1 list_) (fun m20 a19 hi21 hm22 => ?_)
      refine sim_let (v := elp (Sl.enc list_) m20 1) ((Tab.enc h1 list_).fld _ _ _) ?_
      refine sim_let (v := AV.agg [iv a19.box.x1, iv a19.box.y1, iv a19.box.x2, iv a19.box.y2]) ((Tab.enc h1 list_).ld hm22 true 4 1) ?_
      refine sim_callV1 (t := validBox) he_spec_l02Box (snapD_nr _ a19.box rfl) (fun c23 => ?_)
      refine sim_let (v := bv (!c23)) (aUn_not _) ?_
      exact sim_ret rfl
    · refine sim_let (v := bv (bif !c17 then true else c24)) (pick_b' _ _ _) ?_
      refine sim_cond (fun c25 => ?_) (fun c25 => ?_)
      · exact sim_ret ⟨nofun, _, _, rfl, O2⟩
      · refine sim_let (v := iv (wr (w3 + 1))) (aBin_add _ _) ?_
        exact sim_ret ⟨rfl, rfl, O2⟩
  · exact sim_ret ⟨nofun, _, _, _, rfl, O2⟩
theorem ts_spec_l20Ok (env : Nat → Contract) (he_spec_IsLabel : env n_spec_IsLabel = .pure (T1 isLabel)) (he_spec_l02Box : env n_spec_l02Box = .pure (T1 validBox)) (list_ : Sl Symbol) : Sim (denFn Try.prog env n_spec_l20Ok [Sl.enc list_] []) (t_spec_l20Ok list_) fun c p => release p.2 depth p.1 = some ((fun c : Bool => enc c) c) := by
  have O := Hold.nil []
  generalize hB : (⟨[], []⟩ : Base) = B at O
  clear hB
  rw [e_spec_l20Ok]
  unfold t_spec_l20Ok
  refine sim_bind ((tl0_spec_l20Ok env he_spec_IsLabel he_spec_l02Box list_) ⟨rfl, O⟩) (fun qq30 r hq => ?_)
  rcases qq30 with _ | q10
  · obtain ⟨q7, z6, h4, rfl, O5⟩ := hq
    rw [e_lk0x0_spec_l20Ok]
    refine sim_let (v := iv (((list_.getD []).length : Nat) : Int)) (Tab.enc h4 list_).len ?_
    refine sim_let (v := bv (decide ((((list_.getD []).length : Nat) : Int) ≤ 8))) (aBin_leq _ _) ?_
    exact sim_ret (release_plain (by rfl) _)
  · obtain ⟨q11, h8, rfl, O9⟩ := hq
    rw [e_lk0r_spec_l20Ok]
    exact sim_ret (release_plain (by rfl) _)
theorem tt_spec_l20Ok : PureOK Try.prog n_spec_l20Ok (C1 (fun c : Bool => enc c) t_spec_l20Ok) := pureC1 (Econs ok_spec_IsLabel (Econs ok_spec_l02Box E0)) mixed hb_spec_l20Ok fun list_ => ts_spec_l20Ok _ (by simp [envL]) (by simp [envL]) list_

def s1_spec_RelationTable (list_ : Sl Symbol) (w13 : Int) : ((Sl Int) × Int) → Option (Sum ((Sl Int) × Int) (Sl Int)) := fun (w30, w33) =>
  bif decide (w33 < (((list_.getD []).length : Nat) : Int)) then
    obind (getI (list_.getD []) w13) fun a53 =>
    obind (getI (list_.getD []) w33) fun a57 =>
    obind (some (relation a53.box a57.box)) fun c61 =>
    obind (appO w30 ([c61] : List Int)) fun _ =>
    some (.inl ((appS w30 ([c61] : List Int)), wr (w33 + 1)))
  else
    some (.inr w30)
def s0_spec_RelationTable (list_ : Sl Symbol) : ((Sl (Sl Int)) × Int) → Option (Sum ((Sl (Sl Int)) × Int) (Sl (Sl Int))) := fun (w8, w13) =>
  bif decide (w13 < (((list_.getD []).length : Nat) : Int)) then
    obind (loopT (s1_spec_RelationTable list_ w13) ((some ([] : List Int)), 0)) fun q37 =>
    obind (appO w8 ([q37] : List (Sl Int))) fun _ =>
    some (.inl ((appS w8 ([q37] : List (Sl Int))), wr (w13 + 1)))
  else
    some (.inr w8)
def t_spec_RelationTable (list_ : Sl Symbol) : Option ((Sl (Sl Int)) × Int) :=
  obind (t_spec_l20Ok list_) fun c1 =>
  bif !c1 then
    some ((none : Sl (Sl Int)), 1)
  else
    obind (loopT (s0_spec_RelationTable list_) ((some ([] : List (Sl Int))), 0)) fun q17 =>
    some (q17, 0)

theorem tl1_spec_RelationTable (env : Nat → Contract) {B : Base} (he_spec_l20Ok : env n_spec_l20Ok = .pure (C1 (fun c : Bool => enc c) t_spec_l20Ok)) (he_spec_l20Relation : env n_spec_l20Relation = .pure (T2 relation)) (list_ : Sl Symbol) (c1 : Bool) (x3 : AV) (z7 : AV) (ps9 : PS (Sl Int)) (w13 : Int) (x25 : AV)  {st : (Sl Int) × Int} {tm : TM} {h : Heap} (R : (fun (st : (Sl Int) × Int) tm h31 => match st with | (w30, w33) => ∃ z29, tm = [Sl.enc list_, und, nilS, iv 0, z7, iv w13, z29, iv w33, Sl.enc list_, bv c1, bv (!c1), x3, iv w13, Sl.enc list_, iv (((list_.getD []).length : Nat) : Int), bv (decide (w13 < (((list_.getD []).length : Nat) : Int))), AV.top, AV.top, x25, AV.top, AV.top, AV.top, AV.top, AV.top, AV.top, AV.top, AV.top, AV.top, AV.top, AV.top, AV.top, AV.top, AV.top, AV.top, AV.top, AV.top, AV.top, AV.top, AV.top, AV.top, AV.top, AV.top, AV.top, und] ∧ Hold B h31 ([(z29, obS (w30 : Sl Int))] ++ D2 (A := (Sl Int)) z7 ps9)) st tm h) : Sim (loopP hm1_spec_RelationTable xm1_spec_RelationTable (lb1_spec_RelationTable env) tm h) (loopT (s1_spec_RelationTable list_ w13) st) (fun (q : Sl Int) (r : Res) => match q with | q37 => ∃ (q38 : Int) (z36 : AV) (h34 : Heap), r = (.exit 2, [Sl.enc list_, und, nilS, iv 0, z7, iv w13, z36, iv q38, Sl.enc list_, bv c1, bv (!c1), x3, iv w13, Sl.enc list_, iv (((list_.getD []).length : Nat) : Int), bv (decide (w13 < (((list_.getD []).length : Nat) : Int))), AV.top, AV.top, x25, AV.top, AV.top, AV.top, AV.top, AV.top, AV.top, AV.top, AV.top, AV.top, AV.top, AV.top, AV.top, AV.top, AV.top, AV.top, AV.top, AV.top, AV.top, AV.top, AV.top, AV.top, AV.top, AV.top, AV.top, und], h34) ∧ Hold B h34 ([(z36, obS (q37 : Sl Int))] ++ D2 (A := (Sl Int)) z7 ps9)) := by
  refine loop_sim (Rel := fun (st : (Sl Int) × Int) tm h31 => match st with | (w30, w33) => ∃ z29, tm = [Sl.enc list_, und, nilS, iv 0, z7, iv w13, z29, iv w33, Sl.enc list_, bv c1, bv (!c1), x3, iv w13, Sl.enc list_, iv (((list_.getD []).length : Nat) : Int), bv (decide (w13 < (((list_.getD []).length : Nat) : Int))), AV.top, AV.top, x25, AV.top, AV.top, AV.top, AV.top, AV.top, AV.top, AV.top, AV.top, AV.top, AV.top, AV.top, AV.top, AV.top, AV.top, AV.top, AV.top, AV.top, AV.top, AV.top, AV.top, AV.top, AV.top, AV.top, AV.top, und] ∧ Hold B h31 ([(z29, obS (w30 : Sl Int))] ++ D2 (A := (Sl Int)) z7 ps9)) (fun st tm h31 R => ?_) R
  obtain ⟨w30, w33⟩ := st
  obtain ⟨z29, rfl, O32⟩ := R
  rw [e_lb1_spec_RelationTable]
  unfold s1_spec_RelationTable
  dsimp only
  refine sim_let (v := iv (((list_.getD []).length : Nat) : Int)) (Tab.enc h31 list_).len ?_
  refine sim_let (v := bv (decide (w33 < (((list_.getD []).length : Nat) : Int)))) (aBin_lss _ _) ?_
  refine sim_cond (fun c52 => ?_) (fun c52 => ?_)
  · refine sim_get (Tab.enc h31 list_) (fun m54 a53 hi55 hm56 => ?_)
    refine sim_let (v := elp (Sl.enc list_) m54 1) ((Tab.enc h31 list_).fld _ _ _) ?_
    refine sim_let (v := AV.agg [iv a53.box.x1, iv a53.box.y1, iv a53.box.x2, iv a53.box.y2]) ((Tab.enc h31 list_).ld hm56 true 4 1) ?_
    refine sim_get (Tab.enc h31 list_) (fun m58 a57 hi59 hm60 => ?_)
    refine sim_let (v := elp (Sl.enc list_) m58 1) ((Tab.enc h31 list_).fld _ _ _) ?_
    refine sim_let (v := AV.agg [iv a57.box.x1, iv a57.box.y1, iv a57.box.x2, iv a57.box.y2]) ((Tab.enc h31 list_).ld hm60 true 4 1) ?_
    refine sim_callVQ2 (t := relation) he_spec_l20Relation (snapD_nr _ a53.box rfl) (snapD_nr _ a57.box rfl) (fun c61 => ?_)
    refine sim_build (A := Int) O32 ([c61] : List Int) rfl (by first | rfl | simp [aFillRows, zrows]) rfl (fun x62 h63 O64 => ?_)
    replace O64 : Hold B h63 ([(z29, obS (w30 : Sl Int)), (x62, obS ((some ([c61] : List Int)) : Sl Int))] ++ D2 (A := (Sl Int)) z7 ps9) := Hold.rot O64
    refine sim_append (A := Int) (s := w30) O64 0 ([c61] : List Int) rfl (O64.src (A := Int) (s := (some ([c61] : List Int))) 1 rfl) (by decide) (fun x67 h68 O69 => ?_)
    replace O69 : Hold B h68 ([(x67, obS ((appS w30 ([c61] : List Int)) : Sl Int)), (x62, obS ((some ([c61] : List Int)) : Sl Int))] ++ D2 (A := (Sl Int)) z7 ps9) := O69
    have O71 : Hold B h68 ([(x67, obS ((appS w30 ([c61] : List Int)) : Sl Int))] ++ D2 (A := (Sl Int)) z7 ps9) := O69.selD [0] (by decide) rfl
    refine sim_let (v := iv (wr (w33 + 1))) (aBin_add _ _) ?_
    exact sim_ret ⟨rfl, _, rfl, O71⟩
  · exact sim_ret ⟨nofun, _, _, _, rfl, O32⟩
theorem tl0_spec_RelationTable (env : Nat → Contract) {B : Base} (he_spec_l20Ok : env n_spec_l20Ok = .pure (C1 (fun c : Bool => enc c) t_spec_l20Ok)) (he_spec_l20Relation : env n_spec_l20Relation = .pure (T2 relation)) (list_ : Sl Symbol) (c1 : Bool) (x3 : AV)  {st : (Sl (Sl Int)) × Int} {tm : TM} {h : Heap} (R : (fun (st : (Sl (Sl Int)) × Int) tm h11 => match st with | (w8, w13) => ∃ z7, ∃ ps9 : PS (Sl Int), tm = [Sl.enc list_, und, nilS, iv 0, z7, iv w13, AV.top, AV.top, Sl.enc list_, bv c1, bv (!c1), x3, AV.top, AV.top, AV.top, AV.top, AV.top, AV.top, AV.top, AV.top, AV.top, AV.top, AV.top, AV.top, AV.top, AV.top, AV.top, AV.top, AV.top, AV.top, AV.top, AV.top, AV.top, AV.top, AV.top, AV.top, AV.top, AV.top, AV.top, AV.top, AV.top, AV.top, AV.top, und] ∧ pj ps9 = w8 ∧ Hold B h11 ([] ++ D2 (A := (Sl Int)) z7 ps9)) st tm h) : Sim (loopP hm0_spec_RelationTable xm0_spec_RelationTable (lb0_spec_RelationTable env) tm h) (loopT (s0_spec_RelationTable list_) st) (fun (q : Sl (Sl Int)) (r : Res) => match q with | q17 => ∃ (q20 : Int) (z16 : AV) (z21 : AV) (z22 : AV) (ps18 : PS (Sl Int)) (h14 : Heap), r = (.exit 0, [Sl.enc list_, und, nilS, iv 0, z16, iv q20, z21, z22, Sl.enc list_, bv c1, bv (!c1), x3, AV.top, AV.top, AV.top, AV.top, AV.top, AV.top, AV.top, AV.top, AV.top, AV.top, AV.top, AV.top, AV.top, AV.top, AV.top, AV.top, AV.top, AV.top, AV.top, AV.top, AV.top, AV.top, AV.top, AV.top, AV.top, AV.top, AV.top, AV.top, AV.top, AV.top, AV.top, und], h14) ∧ pj ps18 = q17 ∧ Hold B h14 ([] ++ D2 (A := (Sl Int)) z16 ps18)) := by
  refine loop_sim (Rel := fun (st : (Sl (Sl Int)) × Int) tm h11 => match st with | (w8, w13) => ∃ z7, ∃ ps9 : PS (Sl Int), tm = [Sl.enc list_, und, nilS, iv 0, z7, iv w13, AV.top, AV.top, Sl.enc list_, bv c1, bv (!c1), x3, AV.top, AV.top, AV.top, AV.top, AV.top, AV.top, AV.top, AV.top, AV.top, AV.top, AV.top, AV.top, AV.top, AV.top, AV.top, AV.top, AV.top, AV.top, AV.top, AV.top, AV.top, AV.top, AV.top, AV.top, AV.top, AV.top, AV.top, AV.top, AV.top, AV.top, AV.top, und] ∧ pj ps9 = w8 ∧ Hold B h11 ([] ++ D2 (A := (Sl Int)) z7 ps9)) (fun st tm h11 R => ?_) R
  obtain ⟨w8, w13⟩ := st
  obtain ⟨z7, ps9, rfl, hp10, O12⟩ := R
  rw [e_lb0_spec_RelationTable]
  unfold s0_spec_RelationTable
  dsimp only
  refine sim_let (v := iv (((list_.getD []).length : Nat) : Int)) (Tab.enc h11 list_).len ?_
  refine sim_let (v := bv (decide (w13 < (((list_.getD []).length : Nat) : Int)))) (aBin_lss _ _) ?_
  refine sim_cond (fun c24 => ?_) (fun c24 => ?_)
  · refine sim_build (A := Int) O12 ([] : List Int) rfl (by first | rfl | simp [aFillRows, zrows]) rfl (fun x25 h26 O27 => ?_)
    replace O27 : Hold B h26 ([(x25, obS ((some ([] : List Int)) : Sl Int))] ++ D2 (A := (Sl Int)) z7 ps9) := Hold.rot O27
    refine sim_bind ((tl1_spec_RelationTable env he_spec_l20Ok he_spec_l20Relation list_ c1 x3 z7 ps9 w13 x25) ⟨_, rfl, O27⟩) (fun qq75 r hq => ?_)
    revert hq
    revert qq75
    intro q37 hq
    obtain ⟨q38, z36, h34, rfl, O35⟩ := hq
    rw [e_lk1x2_spec_RelationTable]
    refine sim_buildRaw O35 [[z36]] 1 rfl (by first | rfl | simp [aFillRows, zrows, (O35.one (A := Int) (s := q37) 0 rfl).1, (O35.one (A := Int) (s := q37) 0 rfl).2]) rfl (fun x39 h40 O41 => ?_)
    replace O41 : Hold B h40 ([(z36, obS (q37 : Sl Int)), (x39, .sl 1 [[z36]])] ++ D2 (A := (Sl Int)) z7 ps9) := Hold.rot O41
    have O43 : Hold B h40 ([(z36, obS (q37 : Sl Int)), (x39, .sl 1 [[z36]])] ++ D2 (A := (Sl Int)) z7 ps9) := O41.selD [0, 1] (by decide) rfl
    refine sim_push (l := []) (a := q37) (y := z36) (x := z7) (ps := ps9) O43 hp10 (by decide) (fun x44 ps47 h45 hp48 hm49 O46 => ?_)
    refine sim_let (v := iv (wr (w13 + 1))) (aBin_add _ _) ?_
    exact sim_ret ⟨rfl, _, _, rfl, hp48, O46⟩
  · exact sim_ret ⟨nofun, _, _, _, _, _, _, rfl, hp10, O12⟩
theorem ts_spec_RelationTable (env : Nat → Contract) (he_spec_l20Ok : env n_spec_l20Ok = .pure (C1 (fun c : Bool => enc c) t_spec_l20Ok)) (he_spec_l20Relation : env n_spec_l20Relation = .pure (T2 relation)) (list_ : Sl Symbol) : Sim (denFn Try.prog env n_spec_RelationTable [Sl.enc list_] []) (t_spec_RelationTable list_) fun c p => release p.2 depth p.1 = some ((fun c : (Sl (Sl Int)) × Int => AV.tup [rD c.1, enc c.2]) c) := by
  have O := Hold.nil []
  generalize hB : (⟨[], []⟩ : Base) = B at O
  clear hB
  rw [e_spec_RelationTable]
  unfold t_spec_RelationTable
  refine sim_call1 he_spec_l20Ok (snapD_enc _ _) (fun c1 => ?_)
  refine sim_let2 (hand_plain (by rfl) _ _) ?_
  refine sim_let (v := bv (!c1)) (aUn_not _) ?_
  refine sim_cond (fun c2 => ?_) (fun c2 => ?_)
  · exact sim_ret (release_plain (by rfl) _)
  · refine sim_buildRaw O [] 1 rfl rfl rfl (fun x3 h4 O5 => ?_)
    replace O5 : Hold B h4 ([] ++ D2 (A := (Sl Int)) x3 (some [] : PS (Sl Int))) := O5
    refine sim_bind ((tl0_spec_RelationTable env he_spec_l20Ok he_spec_l20Relation list_ c1 x3) ⟨_, _, rfl, (rfl : pj (some [] : PS (Sl Int)) = (some ([] : List (Sl Int)))), O5⟩) (fun qq78 r hq => ?_)
    revert hq
    revert qq78
    intro q17 hq
    obtain ⟨q20, z16, z21, z22, ps18, h14, rfl, hp19, O15⟩ := hq
    rw [e_lk0x0_spec_RelationTable]
    have O23 : Hold B h14 ([] ++ D2 (A := (Sl Int)) z16 ps18) := O15.selD [] (by decide) rfl
    exact sim_ret (release_of (by simp only [ids_tup, ids_aggD, ids_agg, ids_iv, ids_bv, ids_sv, ids_bt, ids_nilS, ids_enc, D2.idsN (l := []) (x := z16) (ps := ps18) (A := (Sl Int)) O23, List.map_append, List.map_nil, List.flatMap_cons, List.flatMap_nil, List.append_nil, List.nil_append]; simpa only [List.flatMap_cons, List.flatMap_nil, List.append_nil, List.nil_append] using O23.nd2) (by simp only [rel_tup, rel_aggD, rel_agg, rel_iv, rel_bv, rel_sv, rel_bt, rel_nilS, rel_enc, D2.relN (l := []) (x := z16) (ps := ps18) (A := (Sl Int)) O23 hp19, omapc, omapn, obind_sm] <;> rfl))
theorem tt_spec_RelationTable : PureOK Try.prog n_spec_RelationTable (C1 (fun c : (Sl (Sl Int)) × Int => AV.tup [rD c.1, enc c.2]) t_spec_RelationTable) := pureC1 (Econs tt_spec_l20Ok (Econs ok_spec_l20Relation E0)) mixed hb_spec_RelationTable fun list_ => ts_spec_RelationTable _ (by simp [envL]) (by simp [envL]) list_

def s0_slices_IndexFunc_impl_Symbol_impl_Symbol (p_ : Symbol → Option Bool) (s_ : Sl Symbol) : Int → Option (Sum Int (Sum Unit Int)) := fun w3 =>
  bif decide (w3 < (((s_.getD []).length : Nat) : Int)) then
    obind (getI (s_.getD []) w3) fun a13 =>
    obind (p_ a13) fun c17 =>
    bif c17 then
      some (.inr (.inr w3))
    else
      some (.inl (wr (w3 + 1)))
  else
    some (.inr (.inl ()))
def t_slices_IndexFunc_impl_Symbol_impl_Symbol (p_ : Symbol → Option Bool) (s_ : Sl Symbol) : Option Int :=
  obind (loopT (s0_slices_IndexFunc_impl_Symbol_impl_Symbol p_ s_) 0) fun qq26 => match qq26 with
  | (.inl _) =>
      some (-1)
  | (.inr q10) =>
      some q10

theorem tl0_slices_IndexFunc_impl_Symbol_impl_Symbol (env : Nat → Contract) {B : Base} {K : Type} [Cod K] {g : Nat} {caps : K → List AV} {P : K → Symbol → Option Bool} (hp : ∀ k (a : Symbol) h, Sim (aCall (env g) (AV.agg (Row.cells a) :: caps k) h) (P k a) fun b r => r = (bv b, h))  (s_ : Sl Symbol) (f_ : K)  {st : Int} {tm : TM} {h : Heap} (R : (fun (st : Int) tm h1 => match st with | w3 => tm = [Sl.enc s_, AV.fn g (caps f_), und, und, AV.top, AV.top, Sl.enc s_, iv (((s_.getD []).length : Nat) : Int), iv w3, AV.top, AV.top, AV.top, AV.top, AV.top, AV.top, AV.top, AV.top, AV.top, AV.top] ∧ Hold B h1 []) st tm h) : Sim (loopP hm0_slices_IndexFunc_impl_Symbol_impl_Symbol xm0_slices_IndexFunc_impl_Symbol_impl_Symbol (lb0_slices_IndexFunc_impl_Symbol_impl_Symbol env) tm h) (loopT (s0_slices_IndexFunc_impl_Symbol_impl_Symbol (P f_) s_) st) (fun (q : Sum Unit Int) (r : Res) => match q with | .inl _ => ∃ (z6 : AV) (z7 : AV) (h4 : Heap), r = (.exit 0, [Sl.enc s_, AV.fn g (caps f_), und, und, z6, z7, Sl.enc s_, iv (((s_.getD []).length : Nat) : Int), AV.top, AV.top, AV.top, AV.top, AV.top, AV.top, AV.top, AV.top, AV.top, AV.top, AV.top], h4) ∧ Hold B h4 [] | .inr q10 => ∃ (q11 : Int) (h8 : Heap), r = (.ret, [Sl.enc s_, AV.fn g (caps f_), und, und, iv q10, iv q11, Sl.enc s_, iv (((s_.getD []).length : Nat) : Int), AV.top, AV.top, AV.top, AV.top, AV.top, AV.top, AV.top, AV.top, AV.top, AV.top, AV.top], h8) ∧ Hold B h8 []) := by
  refine loop_sim (Rel := fun (st : Int) tm h1 => match st with | w3 => tm = [Sl.enc s_, AV.fn g (caps f_), und, und, AV.top, AV.top, Sl.enc s_, iv (((s_.getD []).length : Nat) : Int), iv w3, AV.top, AV.top, AV.top, AV.top, AV.top, AV.top, AV.top, AV.top, AV.top, AV.top] ∧ Hold B h1 []) (fun w3 tm h1 R => ?_) R
  obtain ⟨rfl, O2⟩ := R
  rw [e_lb0_slices_IndexFunc_impl_Symbol_impl_Symbol]
  unfold s0_slices_IndexFunc_impl_Symbol_impl_Symbol
  dsimp only
  refine sim_let (v := bv (decide (w3 < (((s_.getD []).length : Nat) : Int)))) (aBin_lss _ _) ?_
  refine sim_cond (fun c12 => ?_) (fun c12 => ?_)
  · refine sim_get (Tab.enc h1 s_) (fun m14 a13 hi15 hm16 => ?_)
    refine sim_let (v := AV.agg [sv a13.label, iv a13.box.x1, iv a13.box.y1, iv a13.box.x2, iv a13.box.y2]) ((Tab.enc h1 s_).ld hm16 true 5 0) ?_
    refine sim_bind2 (hp f_ a13 _) (fun c17 v18 hh19 hq20 => ?_)
    cases hq20
    refine sim_cond (fun c21 => ?_) (fun c21 => ?_)
    · exact sim_ret ⟨nofun, _, _, rfl, O2⟩
    · refine sim_let (v := iv (wr (w3 + 1))) (aBin_add _ _) ?_
      exact sim_ret ⟨rfl, rfl, O2⟩
  · exact sim_ret ⟨nofun, _, _, _, rfl, O2⟩
theorem ts_slices_IndexFunc_impl_Symbol_impl_Symbol (env : Nat → Contract) {K : Type} [Cod K] {g : Nat} {caps : K → List AV} {P : K → Symbol → Option Bool} (hp : ∀ k (a : Symbol) h, Sim (aCall (env g) (AV.agg (Row.cells a) :: caps k) h) (P k a) fun b r => r = (bv b, h))  (s_ : Sl Symbol) (f_ : K) : Sim (denFn Try.prog env n_slices_IndexFunc_impl_Symbol_impl_Symbol [Sl.enc s_, AV.fn g (caps f_)] []) (t_slices_IndexFunc_impl_Symbol_impl_Symbol (P f_) s_) fun c p => release p.2 depth p.1 = some ((fun c : Int => enc c) c) := by
  have O := Hold.nil []
  generalize hB : (⟨[], []⟩ : Base) = B at O
  clear hB
  rw [e_slices_IndexFunc_impl_Symbol_impl_Symbol]
  unfold t_slices_IndexFunc_impl_Symbol_impl_Symbol
  refine sim_let (v := iv (((s_.getD []).length : Nat) : Int)) (Tab.enc [] s_).len ?_
  refine sim_bind ((tl0_slices_IndexFunc_impl_Symbol_impl_Symbol env hp s_ f_) ⟨rfl, O⟩) (fun qq26 r hq => ?_)
  rcases qq26 with _ | q10
  · obtain ⟨z6, z7, h4, rfl, O5⟩ := hq
    rw [e_lk0x0_slices_IndexFunc_impl_Symbol_impl_Symbol]
    exact sim_ret (release_plain (by rfl) _)
  · obtain ⟨q11, h8, rfl, O9⟩ := hq
    rw [e_lk0r_slices_IndexFunc_impl_Symbol_impl_Symbol]
    exact sim_ret (release_plain (by rfl) _)
theorem tt0_slices_IndexFunc_impl_Symbol_impl_Symbol {g : Nat} {t : Symbol → Option Bool} (hg : PureOK Try.prog g (C1 (fun c : Bool => enc c) t)) : PureOK Try.prog n_slices_IndexFunc_impl_Symbol_impl_Symbol (C2 (fun c : Int => enc c) (fun (q : Sl Symbol) (k : Clo0 g) => t_slices_IndexFunc_impl_Symbol_impl_Symbol ((fun _ : Clo0 g => t) k) q)) := pureC2 (Econs hg E0) mixed hb_slices_IndexFunc_impl_Symbol_impl_Symbol fun q k => ts_slices_IndexFunc_impl_Symbol_impl_Symbol _ (caps := fun _ => []) (P := (fun _ : Clo0 g => t)) (fun k a h => callP0 (by simp [envL]) (snapD_nr _ a rfl)) q k
theorem tt1_slices_IndexFunc_impl_Symbol_impl_Symbol {g : Nat} {X : Type} [Row X] {tp : Symbol → Pt X → Option Bool} (hg : PureOK Try.prog g (C2 (fun c : Bool => enc c) tp)) : PureOK Try.prog n_slices_IndexFunc_impl_Symbol_impl_Symbol (C2 (fun c : Int => enc c) (fun (q : Sl Symbol) (k : Clo g (Pt X)) => t_slices_IndexFunc_impl_Symbol_impl_Symbol ((fun (k : Clo g (Pt X)) a => tp a k.val) k) q)) := pureC2 (Econs hg E0) mixed hb_slices_IndexFunc_impl_Symbol_impl_Symbol fun q k => ts_slices_IndexFunc_impl_Symbol_impl_Symbol _ (caps := fun k : Clo g (Pt X) => [enc k.val]) (P := (fun (k : Clo g (Pt X)) a => tp a k.val)) (fun k a h => callP1 (by simp [envL]) (snapD_nr _ a rfl) (snapD_fptr _ _ _ _ rfl)) q k

def t_slices_ContainsFunc_impl_Symbol_impl_Symbol (p_ : Symbol → Option Bool) (s_ : Sl Symbol) : Option Bool :=
  obind (t_slices_IndexFunc_impl_Symbol_impl_Symbol p_ s_) fun c1 =>
  some (decide (0 ≤ c1))

theorem ts_slices_ContainsFunc_impl_Symbol_impl_Symbol (env : Nat → Contract) {K : Type} [Cod K] {g : Nat} {caps : K → List AV} {P : K → Symbol → Option Bool} (hs : ∀ k h, snapD h (AV.fn g (caps k)) = some k) (he_slices_IndexFunc_impl_Symbol_impl_Symbol : env n_slices_IndexFunc_impl_Symbol_impl_Symbol = .pure (C2 (fun c : Int => enc c) (fun (q : Sl Symbol) (k : K) => t_slices_IndexFunc_impl_Symbol_impl_Symbol (P k) q))) (s_ : Sl Symbol) (f_ : K) : Sim (denFn Try.prog env n_slices_ContainsFunc_impl_Symbol_impl_Symbol [Sl.enc s_, AV.fn g (caps f_)] []) (t_slices_ContainsFunc_impl_Symbol_impl_Symbol (P f_) s_) fun c p => release p.2 depth p.1 = some ((fun c : Bool => enc c) c) := by
  have O := Hold.nil []
  generalize hB : (⟨[], []⟩ : Base) = B at O
  clear hB
  rw [e_slices_ContainsFunc_impl_Symbol_impl_Symbol]
  unfold t_slices_ContainsFunc_impl_Symbol_impl_Symbol
  refine sim_call2 (t := fun (q : Sl Symbol) (k : K) => t_slices_IndexFunc_impl_Symbol_impl_Symbol (P k) q) he_slices_IndexFunc_impl_Symbol_impl_Symbol (snapD_enc _ _) (hs f_ _) (fun c1 => ?_)
  refine sim_let2 (hand_plain (by rfl) _ _) ?_
  refine sim_let (v := bv (decide (0 ≤ c1))) (aBin_geq _ _) ?_
  exact sim_ret (release_plain (by rfl) _)
theorem tt0_slices_ContainsFunc_impl_Symbol_impl_Symbol {g : Nat} {t : Symbol → Option Bool} (hg : PureOK Try.prog g (C1 (fun c : Bool => enc c) t)) : PureOK Try.prog n_slices_ContainsFunc_impl_Symbol_impl_Symbol (C2 (fun c : Bool => enc c) (fun (q : Sl Symbol) (k : Clo0 g) => t_slices_ContainsFunc_impl_Symbol_impl_Symbol ((fun _ : Clo0 g => t) k) q)) := pureC2 (Econs (tt0_slices_IndexFunc_impl_Symbol_impl_Symbol hg) E0) mixed hb_slices_ContainsFunc_impl_Symbol_impl_Symbol fun q k => ts_slices_ContainsFunc_impl_Symbol_impl_Symbol _ (caps := fun _ => []) (P := (fun _ : Clo0 g => t)) (fun k h => snapD_clo0 h g) (by simp [envL]) q k
theorem tt1_slices_ContainsFunc_impl_Symbol_impl_Symbol {g : Nat} {X : Type} [Row X] {tp : Symbol → Pt X → Option Bool} (hg : PureOK Try.prog g (C2 (fun c : Bool => enc c) tp)) : PureOK Try.prog n_slices_ContainsFunc_impl_Symbol_impl_Symbol (C2 (fun c : Bool => enc c) (fun (q : Sl Symbol) (k : Clo g (Pt X)) => t_slices_ContainsFunc_impl_Symbol_impl_Symbol ((fun (k : Clo g (Pt X)) a => tp a k.val) k) q)) := pureC2 (Econs (tt1_slices_IndexFunc_impl_Symbol_impl_Symbol hg) E0) mixed hb_slices_ContainsFunc_impl_Symbol_impl_Symbol fun q k => ts_slices_ContainsFunc_impl_Symbol_impl_Symbol _ (caps := fun k : Clo g (Pt X) => [enc k.val]) (P := (fun (k : Clo g (Pt X)) a => tp a k.val)) (fun k h => snapD_cloE h k) (by simp [envL]) q k

def t_impl_ValidSymbols (list_ : Sl Symbol) : Option Bool :=
  obind (bif decide ((((list_.getD []).length : Nat) : Int) ≤ 8) then (obind (t_slices_ContainsFunc_impl_Symbol_impl_Symbol (fun a => some ((fun s : Symbol => !okSym s) a)) list_) fun c2 => some (!c2)) else some false) fun c3 =>
  some (bif decide ((((list_.getD []).length : Nat) : Int) ≤ 8) then c3 else false)

theorem ts_impl_ValidSymbols (env : Nat → Contract) (he_slices_ContainsFunc_impl_Symbol_impl_Symbol : env n_slices_ContainsFunc_impl_Symbol_impl_Symbol = .pure (C2 (fun c : Bool => enc c) (fun (q : Sl Symbol) (k : Clo0 n_impl_ValidSymbols_1) => t_slices_ContainsFunc_impl_Symbol_impl_Symbol ((fun _ : Clo0 n_impl_ValidSymbols_1 => (fun a => some ((fun s : Symbol => !okSym s) a))) k) q))) (list_ : Sl Symbol) : Sim (denFn Try.prog env n_impl_ValidSymbols [Sl.enc list_] []) (t_impl_ValidSymbols list_) fun c p => release p.2 depth p.1 = some ((fun c : Bool => enc c) c) := by
  have O := Hold.nil []
  generalize hB : (⟨[], []⟩ : Base) = B at O
  clear hB
  rw [e_impl_ValidSymbols]
  unfold t_impl_ValidSymbols
  refine sim_let (v := iv (((list_.getD []).length : Nat) : Int)) (Tab.enc [] list_).len ?_
  refine sim_let (v := bv (decide ((((list_.getD []).length : Nat) : Int) ≤ 8))) (aBin_leq _ _) ?_
  refine sim_guardT (e := bv) (fun hb1 => ?_) (fun c3 => ?_)
  · refine sim_call2 (t := fun (q : Sl Symbol) (k : Clo0 n_impl_ValidSymbols_1) => t_slices_ContainsFunc_impl_Symbol_impl_Symbol ((fun _ : Clo0 n_impl_ValidSymbols_1 => (fun a => some ((fun s : Symbol => !okSym s) a))) k) q) he_slices_ContainsFunc_impl_Symbol_impl_Symbol (snapD_enc _ _) (snapD_clo0 _ _) (fun c2 => ?_)
    refine sim_let2 (hand_plain (by rfl) _ _) ?_
    refine sim_let (v := bv (!c2)) (aUn_not _) ?_
    exact sim_ret rfl
  · refine sim_let (v := bv (bif decide ((((list_.getD []).length : Nat) : Int) ≤ 8) then c3 else false)) (pick_b _ _ _) ?_
    exact sim_ret (release_plain (by rfl) _)
theorem tt_impl_ValidSymbols : PureOK Try.prog n_impl_ValidSymbols (C1 (fun c : Bool => enc c) t_impl_ValidSymbols) := pureC1 (Econs (tt0_slices_ContainsFunc_impl_Symbol_impl_Symbol (C1_T1 ok_impl_ValidSymbols_1)) E0) mixed hb_impl_ValidSymbols fun list_ => ts_impl_ValidSymbols _ (by simp [envL]) list_

def s1_impl_RelationTable (list_ : Sl Symbol) (a23 : Symbol) : ((Sl Int) × Int) → Option (Sum ((Sl Int) × Int) (Sl Int)) := fun (w36, w39) =>
  bif decide (w39 < (((list_.getD []).length : Nat) : Int)) then
    obind (getI (list_.getD []) w39) fun a59 =>
    obind (some (relation a23.box a59.box)) fun c69 =>
    obind (appO w36 ([c69] : List Int)) fun _ =>
    some (.inl ((appS w36 ([c69] : List Int)), wr (w39 + 1)))
  else
    some (.inr w36)
def s0_impl_RelationTable (list_ : Sl Symbol) : ((Sl (Sl Int)) × Int) → Option (Sum ((Sl (Sl Int)) × Int) (Sl (Sl Int))) := fun (w6, w11) =>
  bif decide (w11 < (((list_.getD []).length : Nat) : Int)) then
    obind (getI (list_.getD []) w11) fun a23 =>
    obind (loopT (s1_impl_RelationTable list_ a23) ((none : Sl Int), 0)) fun q43 =>
    obind (appO w6 ([q43] : List (Sl Int))) fun _ =>
    some (.inl ((appS w6 ([q43] : List (Sl Int))), wr (w11 + 1)))
  else
    some (.inr w6)
def t_impl_RelationTable (list_ : Sl Symbol) : Option ((Sl (Sl Int)) × Int) :=
  obind (t_impl_ValidSymbols list_) fun c1 =>
  bif !c1 then
    some ((none : Sl (Sl Int)), 1)
  else
    obind (loopT (s0_impl_RelationTable list_) ((none : Sl (Sl Int)), 0)) fun q15 =>
    some (q15, 0)

theorem tl1_impl_RelationTable (env : Nat → Contract) {B : Base} (he_impl_ValidSymbols : env n_impl_ValidSymbols = .pure (C1 (fun c : Bool => enc c) t_impl_ValidSymbols)) (he_impl_relation : env n_impl_relation = .pure (T2 relation)) (list_ : Sl Symbol) (c1 : Bool) (z5 : AV) (ps7 : PS (Sl Int)) (w11 : Int) (a23 : Symbol) (m24 : Nat) (o27 : Nat)  {st : (Sl Int) × Int} {tm : TM} {h : Heap} (R : (fun (st : (Sl Int) × Int) tm h37 => match st with | (w36, w39) => ∃ z35, tm = [Sl.enc list_, und, nilS, iv 0, z5, und, AV.ptr o27 1 0 0, z35, und, AV.top, Sl.enc list_, bv c1, bv (!c1), Sl.enc list_, iv (((list_.getD []).length : Nat) : Int), iv w11, bv (decide (w11 < (((list_.getD []).length : Nat) : Int))), elp (Sl.enc list_) m24 0, AV.agg [sv a23.label, iv a23.box.x1, iv a23.box.y1, iv a23.box.x2, iv a23.box.y2], Sl.enc list_, iv (((list_.getD []).length : Nat) : Int), iv w39, AV.top, AV.top, AV.top, AV.top, AV.top, AV.top, AV.top, AV.top, AV.top, AV.top, AV.top, AV.top, AV.top, AV.top, AV.top, AV.top, AV.top, und] ∧ Hold B h37 ([(AV.ptr o27 1 0 0, .pt 5 [sv a23.label, iv a23.box.x1, iv a23.box.y1, iv a23.box.x2, iv a23.box.y2]), (z35, obS (w36 : Sl Int))] ++ D2 (A := (Sl Int)) z5 ps7)) st tm h) : Sim (loopP hm1_impl_RelationTable xm1_impl_RelationTable (lb1_impl_RelationTable env) tm h) (loopT (s1_impl_RelationTable list_ a23) st) (fun (q : Sl Int) (r : Res) => match q with | q43 => ∃ (z42 : AV) (z44 : AV) (h40 : Heap), r = (.exit 2, [Sl.enc list_, und, nilS, iv 0, z5, und, AV.ptr o27 1 0 0, z42, und, z44, Sl.enc list_, bv c1, bv (!c1), Sl.enc list_, iv (((list_.getD []).length : Nat) : Int), iv w11, bv (decide (w11 < (((list_.getD []).length : Nat) : Int))), elp (Sl.enc list_) m24 0, AV.agg [sv a23.label, iv a23.box.x1, iv a23.box.y1, iv a23.box.x2, iv a23.box.y2], Sl.enc list_, iv (((list_.getD []).length : Nat) : Int), AV.top, AV.top, AV.top, AV.top, AV.top, AV.top, AV.top, AV.top, AV.top, AV.top, AV.top, AV.top, AV.top, AV.top, AV.top, AV.top, AV.top, AV.top, und], h40) ∧ Hold B h40 ([(AV.ptr o27 1 0 0, .pt 5 [sv a23.label, iv a23.box.x1, iv a23.box.y1, iv a23.box.x2, iv a23.box.y2]), (z42, obS (q43 : Sl Int))] ++ D2 (A := (Sl Int)) z5 ps7)) := by
  refine loop_sim (Rel := fun (st : (Sl Int) × Int) tm h37 => match st with | (w36, w39) => ∃ z35, tm = [Sl.enc list_, und, nilS, iv 0, z5, und, AV.ptr o27 1 0 0, z35, und, AV.top, Sl.enc list_, bv c1, bv (!c1), Sl.enc list_, iv (((list_.getD []).length : Nat) : Int), iv w11, bv (decide (w11 < (((list_.getD []).length : Nat) : Int))), elp (Sl.enc list_) m24 0, AV.agg [sv a23.label, iv a23.box.x1, iv a23.box.y1, iv a23.box.x2, iv a23.box.y2], Sl.enc list_, iv (((list_.getD []).length : Nat) : Int), iv w39, AV.top, AV.top, AV.top, AV.top, AV.top, AV.top, AV.top, AV.top, AV.top, AV.top, AV.top, AV.top, AV.top, AV.top, AV.top, AV.top, AV.top, und] ∧ Hold B h37 ([(AV.ptr o27 1 0 0, .pt 5 [sv a23.label, iv a23.box.x1, iv a23.box.y1, iv a23.box.x2, iv a23.box.y2]), (z35, obS (w36 : Sl Int))] ++ D2 (A := (Sl Int)) z5 ps7)) (fun st tm h37 R => ?_) R
  obtain ⟨w36, w39⟩ := st
  obtain ⟨z35, rfl, O38⟩ := R
  rw [e_lb1_impl_RelationTable]
  unfold s1_impl_RelationTable
  dsimp only
  refine sim_let (v := bv (decide (w39 < (((list_.getD []).length : Nat) : Int)))) (aBin_lss _ _) ?_
  refine sim_cond (fun c58 => ?_) (fun c58 => ?_)
  · refine sim_get (Tab.enc h37 list_) (fun m60 a59 hi61 hm62 => ?_)
    refine sim_let (v := AV.agg [sv a59.label, iv a59.box.x1, iv a59.box.y1, iv a59.box.x2, iv a59.box.y2]) ((Tab.enc h37 list_).ld hm62 true 5 0) ?_
    refine sim_box O38 (cs := [sv (⟨#[]⟩ : ByteArray), iv 0, iv 0, iv 0, iv 0]) (by first | rfl | simp) (fun o63 h64 O65 => ?_)
    replace O65 : Hold B h64 ([(AV.ptr o27 1 0 0, .pt 5 [sv a23.label, iv a23.box.x1, iv a23.box.y1, iv a23.box.x2, iv a23.box.y2]), (z35, obS (w36 : Sl Int)), (AV.ptr o63 1 0 0, .pt 5 [sv (⟨#[]⟩ : ByteArray), iv 0, iv 0, iv 0, iv 0])] ++ D2 (A := (Sl Int)) z5 ps7) := Hold.rot O65
    refine sim_store O65 2 (cs' := [sv a59.label, iv a59.box.x1, iv a59.box.y1, iv a59.box.x2, iv a59.box.y2]) rfl (by first | rfl | simp) (by simp) (by first | rfl | simp) (by first | rfl | simp [splice]) (fun h67 O68 => ?_)
    replace O68 : Hold B h67 ([(AV.ptr o27 1 0 0, .pt 5 [sv a23.label, iv a23.box.x1, iv a23.box.y1, iv a23.box.x2, iv a23.box.y2]), (z35, obS (w36 : Sl Int)), (AV.ptr o63 1 0 0, .pt 5 [sv a59.label, iv a59.box.x1, iv a59.box.y1, iv a59.box.x2, iv a59.box.y2])] ++ D2 (A := (Sl Int)) z5 ps7) := O68
    refine sim_let (v := AV.ptr o27 1 0 1) rfl ?_
    refine sim_let (v := AV.agg [iv a23.box.x1, iv a23.box.y1, iv a23.box.x2, iv a23.box.y2]) (O68.ld 0 rfl true 4 1) ?_
    refine sim_let (v := AV.ptr o63 1 0 1) rfl ?_
    refine sim_let (v := AV.agg [iv a59.box.x1, iv a59.box.y1, iv a59.box.x2, iv a59.box.y2]) (O68.ld 2 rfl true 4 1) ?_
    refine sim_callV2 (t := relation) he_impl_relation (snapD_nr _ a23.box rfl) (snapD_nr _ a59.box rfl) (fun c69 => ?_)
    refine sim_build (A := Int) O68 ([c69] : List Int) rfl (by first | rfl | simp [aFillRows, zrows]) rfl (fun x70 h71 O72 => ?_)
    replace O72 : Hold B h71 ([(AV.ptr o27 1 0 0, .pt 5 [sv a23.label, iv a23.box.x1, iv a23.box.y1, iv a23.box.x2, iv a23.box.y2]), (z35, obS (w36 : Sl Int)), (AV.ptr o63 1 0 0, .pt 5 [sv a59.label, iv a59.box.x1, iv a59.box.y1, iv a59.box.x2, iv a59.box.y2]), (x70, obS ((some ([c69] : List Int)) : Sl Int))] ++ D2 (A := (Sl Int)) z5 ps7) := Hold.rot O72
    refine sim_append (A := Int) (s := w36) O72 1 ([c69] : List Int) rfl (O72.src (A := Int) (s := (some ([c69] : List Int))) 3 rfl) (by decide) (fun x75 h76 O77 => ?_)
    replace O77 : Hold B h76 ([(AV.ptr o27 1 0 0, .pt 5 [sv a23.label, iv a23.box.x1, iv a23.box.y1, iv a23.box.x2, iv a23.box.y2]), (x75, obS ((appS w36 ([c69] : List Int)) : Sl Int)), (AV.ptr o63 1 0 0, .pt 5 [sv a59.label, iv a59.box.x1, iv a59.box.y1, iv a59.box.x2, iv a59.box.y2]), (x70, obS ((some ([c69] : List Int)) : Sl Int))] ++ D2 (A := (Sl Int)) z5 ps7) := O77
    have O79 : Hold B h76 ([(AV.ptr o27 1 0 0, .pt 5 [sv a23.label, iv a23.box.x1, iv a23.box.y1, iv a23.box.x2, iv a23.box.y2]), (x75, obS ((appS w36 ([c69] : List Int)) : Sl Int)), (AV.ptr o63 1 0 0, .pt 5 [sv a59.label, iv a59.box.x1, iv a59.box.y1, iv a59.box.x2, iv a59.box.y2])] ++ D2 (A := (Sl Int)) z5 ps7) := O77.selD [0, 1, 2] (by decide) rfl
    refine sim_let (v := iv (wr (w39 + 1))) (aBin_add _ _) ?_
    have O80 : Hold B h76 ([(AV.ptr o27 1 0 0, .pt 5 [sv a23.label, iv a23.box.x1, iv a23.box.y1, iv a23.box.x2, iv a23.box.y2]), (x75, obS ((appS w36 ([c69] : List Int)) : Sl Int))] ++ D2 (A := (Sl Int)) z5 ps7) := O79.selD [0, 1] (by decide) rfl
    exact sim_ret ⟨rfl, _, rfl, O80⟩
  · exact sim_ret ⟨nofun, _, _, _, rfl, O38⟩
theorem tl0_impl_RelationTable (env : Nat → Contract) {B : Base} (he_impl_ValidSymbols : env n_impl_ValidSymbols = .pure (C1 (fun c : Bool => enc c) t_impl_ValidSymbols)) (he_impl_relation : env n_impl_relation = .pure (T2 relation)) (list_ : Sl Symbol) (c1 : Bool)  {st : (Sl (Sl Int)) × Int} {tm : TM} {h : Heap} (R : (fun (st : (Sl (Sl Int)) × Int) tm h9 => match st with | (w6, w11) => ∃ z5, ∃ ps7 : PS (Sl Int), tm = [Sl.enc list_, und, nilS, iv 0, z5, und, AV.top, AV.top, und, AV.top, Sl.enc list_, bv c1, bv (!c1), Sl.enc list_, iv (((list_.getD []).length : Nat) : Int), iv w11, AV.top, AV.top, AV.top, AV.top, AV.top, AV.top, AV.top, AV.top, AV.top, AV.top, AV.top, AV.top, AV.top, AV.top, AV.top, AV.top, AV.top, AV.top, AV.top, AV.top, AV.top, AV.top, AV.top, und] ∧ pj ps7 = w6 ∧ Hold B h9 ([] ++ D2 (A := (Sl Int)) z5 ps7)) st tm h) : Sim (loopP hm0_impl_RelationTable xm0_impl_RelationTable (lb0_impl_RelationTable env) tm h) (loopT (s0_impl_RelationTable list_) st) (fun (q : Sl (Sl Int)) (r : Res) => match q with | q15 => ∃ (z14 : AV) (z18 : AV) (z19 : AV) (z20 : AV) (ps16 : PS (Sl Int)) (h12 : Heap), r = (.exit 0, [Sl.enc list_, und, nilS, iv 0, z14, und, z18, z19, und, z20, Sl.enc list_, bv c1, bv (!c1), Sl.enc list_, iv (((list_.getD []).length : Nat) : Int), AV.top, AV.top, AV.top, AV.top, AV.top, AV.top, AV.top, AV.top, AV.top, AV.top, AV.top, AV.top, AV.top, AV.top, AV.top, AV.top, AV.top, AV.top, AV.top, AV.top, AV.top, AV.top, AV.top, AV.top, und], h12) ∧ pj ps16 = q15 ∧ Hold B h12 ([] ++ D2 (A := (Sl Int)) z14 ps16)) := by
  refine loop_sim (Rel := fun (st : (Sl (Sl Int)) × Int) tm h9 => match st with | (w6, w11) => ∃ z5, ∃ ps7 : PS (Sl Int), tm = [Sl.enc list_, und, nilS, iv 0, z5, und, AV.top, AV.top, und, AV.top, Sl.enc list_, bv c1, bv (!c1), Sl.enc list_, iv (((list_.getD []).length : Nat) : Int), iv w11, AV.top, AV.top, AV.top, AV.top, AV.top, AV.top, AV.top, AV.top, AV.top, AV.top, AV.top, AV.top, AV.top, AV.top, AV.top, AV.top, AV.top, AV.top, AV.top, AV.top, AV.top, AV.top, AV.top, und] ∧ pj ps7 = w6 ∧ Hold B h9 ([] ++ D2 (A := (Sl Int)) z5 ps7)) (fun st tm h9 R => ?_) R
  obtain ⟨w6, w11⟩ := st
  obtain ⟨z5, ps7, rfl, hp8, O10⟩ := R
  rw [e_lb0_impl_RelationTable]
  unfold s0_impl_RelationTable
  dsimp only
  refine sim_let (v := bv (decide (w11 < (((list_.getD []).length : Nat) : Int)))) (aBin_lss _ _) ?_
  refine sim_cond (fun c22 => ?_) (fun c22 => ?_)
  · refine sim_get (Tab.enc h9 list_) (fun m24 a23 hi25 hm26 => ?_)
    refine sim_let (v := AV.agg [sv a23.label, iv a23.box.x1, iv a23.box.y1, iv a23.box.x2, iv a23.box.y2]) ((Tab.enc h9 list_).ld hm26 true 5 0) ?_
    refine sim_box O10 (cs := [sv (⟨#[]⟩ : ByteArray), iv 0, iv 0, iv 0, iv 0]) (by first | rfl | simp) (fun o27 h28 O29 => ?_)
    replace O29 : Hold B h28 ([(AV.ptr o27 1 0 0, .pt 5 [sv (⟨#[]⟩ : ByteArray), iv 0, iv 0, iv 0, iv 0])] ++ D2 (A := (Sl Int)) z5 ps7) := Hold.rot O29
    refine sim_store O29 0 (cs' := [sv a23.label, iv a23.box.x1, iv a23.box.y1, iv a23.box.x2, iv a23.box.y2]) rfl (by first | rfl | simp) (by simp) (by first | rfl | simp) (by first | rfl | simp [splice]) (fun h31 O32 => ?_)
    replace O32 : Hold B h31 ([(AV.ptr o27 1 0 0, .pt 5 [sv a23.label, iv a23.box.x1, iv a23.box.y1, iv a23.box.x2, iv a23.box.y2])] ++ D2 (A := (Sl Int)) z5 ps7) := O32
    refine sim_let (v := iv (((list_.getD []).length : Nat) : Int)) (Tab.enc h31 list_).len ?_
    have O33 : Hold B h31 ([(AV.ptr o27 1 0 0, .pt 5 [sv a23.label, iv a23.box.x1, iv a23.box.y1, iv a23.box.x2, iv a23.box.y2]), (nilS, obS ((none : Sl Int) : Sl Int))] ++ D2 (A := (Sl Int)) z5 ps7) := Hold.rot O32.addnil
    refine sim_bind ((tl1_impl_RelationTable env he_impl_ValidSymbols he_impl_relation list_ c1 z5 ps7 w11 a23 m24 o27) ⟨_, rfl, O33⟩) (fun qq83 r hq => ?_)
    revert hq
    revert qq83
    intro q43 hq
    obtain ⟨z42, z44, h40, rfl, O41⟩ := hq
    rw [e_lk1x2_impl_RelationTable]
    refine sim_buildRaw O41 [[z42]] 1 rfl (by first | rfl | simp [aFillRows, zrows, (O41.one (A := Int) (s := q43) 1 rfl).1, (O41.one (A := Int) (s := q43) 1 rfl).2]) rfl (fun x45 h46 O47 => ?_)
    replace O47 : Hold B h46 ([(AV.ptr o27 1 0 0, .pt 5 [sv a23.label, iv a23.box.x1, iv a23.box.y1, iv a23.box.x2, iv a23.box.y2]), (z42, obS (q43 : Sl Int)), (x45, .sl 1 [[z42]])] ++ D2 (A := (Sl Int)) z5 ps7) := Hold.rot O47
    have O49 : Hold B h46 ([(AV.ptr o27 1 0 0, .pt 5 [sv a23.label, iv a23.box.x1, iv a23.box.y1, iv a23.box.x2, iv a23.box.y2]), (z42, obS (q43 : Sl Int)), (x45, .sl 1 [[z42]])] ++ D2 (A := (Sl Int)) z5 ps7) := O47.selD [0, 1, 2] (by decide) rfl
    refine sim_push (l := [(AV.ptr o27 1 0 0, .pt 5 [sv a23.label, iv a23.box.x1, iv a23.box.y1, iv a23.box.x2, iv a23.box.y2])]) (a := q43) (y := z42) (x := z5) (ps := ps7) O49 hp8 (by decide) (fun x50 ps53 h51 hp54 hm55 O52 => ?_)
    refine sim_let (v := iv (wr (w11 + 1))) (aBin_add _ _) ?_
    have O57 : Hold B h51 ([] ++ D2 (A := (Sl Int)) x50 ps53) := O52.selD [] (by decide) rfl
    exact sim_ret ⟨rfl, _, _, rfl, hp54, O57⟩
  · exact sim_ret ⟨nofun, _, _, _, _, _, _, rfl, hp8, O10⟩
theorem ts_impl_RelationTable (env : Nat → Contract) (he_impl_ValidSymbols : env n_impl_ValidSymbols = .pure (C1 (fun c : Bool => enc c) t_impl_ValidSymbols)) (he_impl_relation : env n_impl_relation = .pure (T2 relation)) (list_ : Sl Symbol) : Sim (denFn Try.prog env n_impl_RelationTable [Sl.enc list_] []) (t_impl_RelationTable list_) fun c p => release p.2 depth p.1 = some ((fun c : (Sl (Sl Int)) × Int => AV.tup [rD c.1, enc c.2]) c) := by
  have O := Hold.nil []
  generalize hB : (⟨[], []⟩ : Base) = B at O
  clear hB
  rw [e_impl_RelationTable]
  unfold t_impl_RelationTable
  refine sim_call1 he_impl_ValidSymbols (snapD_enc _ _) (fun c1 => ?_)
  refine sim_let2 (hand_plain (by rfl) _ _) ?_
  refine sim_let (v := bv (!c1)) (aUn_not _) ?_
  refine sim_cond (fun c2 => ?_) (fun c2 => ?_)
  · exact sim_ret (release_plain (by rfl) _)
  · refine sim_let (v := iv (((list_.getD []).length : Nat) : Int)) (Tab.enc [] list_).len ?_
    have O3 : Hold B [] ([] ++ D2 (A := (Sl Int)) nilS (none : PS (Sl Int))) := O.addnil
    refine sim_bind ((tl0_impl_RelationTable env he_impl_ValidSymbols he_impl_relation list_ c1) ⟨_, _, rfl, (rfl : pj (none : PS (Sl Int)) = (none : Sl (Sl Int))), O3⟩) (fun qq86 r hq => ?_)
    revert hq
    revert qq86
    intro q15 hq
    obtain ⟨z14, z18, z19, z20, ps16, h12, rfl, hp17, O13⟩ := hq
    rw [e_lk0x0_impl_RelationTable]
    have O21 : Hold B h12 ([] ++ D2 (A := (Sl Int)) z14 ps16) := O13.selD [] (by decide) rfl
    exact sim_ret (release_of (by simp only [ids_tup, ids_aggD, ids_agg, ids_iv, ids_bv, ids_sv, ids_bt, ids_nilS, ids_enc, D2.idsN (l := []) (x := z14) (ps := ps16) (A := (Sl Int)) O21, List.map_append, List.map_nil, List.flatMap_cons, List.flatMap_nil, List.append_nil, List.nil_append]; simpa only [List.flatMap_cons, List.flatMap_nil, List.append_nil, List.nil_append] using O21.nd2) (by simp only [rel_tup, rel_aggD, rel_agg, rel_iv, rel_bv, rel_sv, rel_bt, rel_nilS, rel_enc, D2.relN (l := []) (x := z14) (ps := ps16) (A := (Sl Int)) O21 hp17, omapc, omapn, obind_sm] <;> rfl))
theorem tt_impl_RelationTable : PureOK Try.prog n_impl_RelationTable (C1 (fun c : (Sl (Sl Int)) × Int => AV.tup [rD c.1, enc c.2]) t_impl_RelationTable) := pureC1 (Econs tt_impl_ValidSymbols (Econs ok_impl_relation E0)) mixed hb_impl_RelationTable fun list_ => ts_impl_RelationTable _ (by simp [envL]) (by simp [envL]) list_

def s0_laws_eqSymbolS (a_ : Sl Symbol) (b_ : Sl Symbol) : Int → Option (Sum Int (Sum Unit Bool)) := fun w4 =>
  bif decide (w4 < (((a_.getD []).length : Nat) : Int)) then
    obind (getI (a_.getD []) w4) fun a14 =>
    obind (getI (b_.getD []) w4) fun a18 =>
    obind (some ((fun a b : Symbol => decide (a = b)) a14 a18)) fun c22 =>
    bif !c22 then
      some (.inr (.inr false))
    else
      some (.inl (wr (w4 + 1)))
  else
    some (.inr (.inl ()))
def t_laws_eqSymbolS (a_ : Sl Symbol) (b_ : Sl Symbol) : Option Bool :=
  bif !decide ((((a_.getD []).length : Nat) : Int) = (((b_.getD []).length : Nat) : Int)) then
    some false
  else
    obind (loopT (s0_laws_eqSymbolS a_ b_) 0) fun qq28 => match qq28 with
    | (.inl _) =>
        some true
    | (.inr q11) =>
        some q11

theorem tl0_laws_eqSymbolS (env : Nat → Contract) {B : Base} (he_laws_eqSymbol : env n_laws_eqSymbol = .pure (T2 (fun a b : Symbol => decide (a = b)))) (a_ : Sl Symbol) (b_ : Sl Symbol)  {st : Int} {tm : TM} {h : Heap} (R : (fun (st : Int) tm h2 => match st with | w4 => tm = [Sl.enc a_, Sl.enc b_, und, und, AV.top, iv w4, Sl.enc a_, iv (((a_.getD []).length : Nat) : Int), Sl.enc b_, iv (((b_.getD []).length : Nat) : Int), bv (!decide ((((a_.getD []).length : Nat) : Int) = (((b_.getD []).length : Nat) : Int))), AV.top, AV.top, AV.top, AV.top, AV.top, AV.top, AV.top, AV.top, AV.top, AV.top, AV.top, AV.top, AV.top, AV.top, AV.top, AV.top] ∧ Hold B h2 []) st tm h) : Sim (loopP hm0_laws_eqSymbolS xm0_laws_eqSymbolS (lb0_laws_eqSymbolS env) tm h) (loopT (s0_laws_eqSymbolS a_ b_) st) (fun (q : Sum Unit Bool) (r : Res) => match q with | .inl _ => ∃ (q8 : Int) (z7 : AV) (h5 : Heap), r = (.exit 0, [Sl.enc a_, Sl.enc b_, und, und, z7, iv q8, Sl.enc a_, iv (((a_.getD []).length : Nat) : Int), Sl.enc b_, iv (((b_.getD []).length : Nat) : Int), bv (!decide ((((a_.getD []).length : Nat) : Int) = (((b_.getD []).length : Nat) : Int))), AV.top, AV.top, AV.top, AV.top, AV.top, AV.top, AV.top, AV.top, AV.top, AV.top, AV.top, AV.top, AV.top, AV.top, AV.top, AV.top], h5) ∧ Hold B h5 [] | .inr q11 => ∃ (q12 : Int) (h9 : Heap), r = (.ret, [Sl.enc a_, Sl.enc b_, und, und, bv q11, iv q12, Sl.enc a_, iv (((a_.getD []).length : Nat) : Int), Sl.enc b_, iv (((b_.getD []).length : Nat) : Int), bv (!decide ((((a_.getD []).length : Nat) : Int) = (((b_.getD []).length : Nat) : Int))), AV.top, AV.top, AV.top, AV.top, AV.top, AV.top, AV.top, AV.top, AV.top, AV.top, AV.top, AV.top, AV.top, AV.top, AV.top, AV.top], h9) ∧ Hold B h9 []) := by
  refine loop_sim (Rel := fun (st : Int) tm h2 => match st with | w4 => tm = [Sl.enc a_, Sl.enc b_, und, und, AV.top, iv w4, Sl.enc a_, iv (((a_.getD []).length : Nat) : Int), Sl.enc b_, iv (((b_.getD []).length : Nat) : Int), bv (!decide ((((a_.getD []).length : Nat) : Int) = (((b_.getD []).length : Nat) : Int))), AV.top, AV.top, AV.top, AV.top, AV.top, AV.top, AV.top, AV.top, AV.top, AV.top, AV.top, AV.top, AV.top, AV.top, AV.top, AV.top] ∧ Hold B h2 []) (fun w4 tm h2 R => ?_) R
  obtain ⟨rfl, O3⟩ := R
  rw [e_lb0_laws_eqSymbolS]
  unfold s0_laws_eqSymbolS
  dsimp only
  refine sim_let (v := iv (((a_.getD []).length : Nat) : Int)) (Tab.enc h2 a_).len ?_
  refine sim_let (v := bv (decide (w4 < (((a_.getD []).length : Nat) : Int)))) (aBin_lss _ _) ?_
  refine sim_cond (fun c13 => ?_) (fun c13 => ?_)
  · refine sim_get (Tab.enc h2 a_) (fun m15 a14 hi16 hm17 => ?_)
    refine sim_let (v := AV.agg [sv a14.label, iv a14.box.x1, iv a14.box.y1, iv a14.box.x2, iv a14.box.y2]) ((Tab.enc h2 a_).ld hm17 true 5 0) ?_
    refine sim_get (Tab.enc h2 b_) (fun m19 a18 hi20 hm21 => ?_)
    refine sim_let (v := AV.agg [sv a18.label, iv a18.box.x1, iv a18.box.y1, iv a18.box.x2, iv a18.box.y2]) ((Tab.enc h2 b_).ld hm21 true 5 0) ?_
    refine sim_callVQ2 (t := (fun a b : Symbol => decide (a = b))) he_laws_eqSymbol (snapD_nr _ a14 rfl) (snapD_nr _ a18 rfl) (fun c22 => ?_)
    refine sim_let (v := bv (!c22)) (aUn_not _) ?_
    refine sim_cond (fun c23 => ?_) (fun c23 => ?_)
    · exact sim_ret ⟨nofun, _, _, rfl, O3⟩
    · refine sim_let (v := iv (wr (w4 + 1))) (aBin_add _ _) ?_
      exact sim_ret ⟨rfl, rfl, O3⟩
  · exact sim_ret ⟨nofun, _, _, _, rfl, O3⟩
theorem ts_laws_eqSymbolS (env : Nat → Contract) (he_laws_eqSymbol : env n_laws_eqSymbol = .pure (T2 (fun a b : Symbol => decide (a = b)))) (a_ : Sl Symbol) (b_ : Sl Symbol) : Sim (denFn Try.prog env n_laws_eqSymbolS [Sl.enc a_, Sl.enc b_] []) (t_laws_eqSymbolS a_ b_) fun c p => release p.2 depth p.1 = some ((fun c : Bool => enc c) c) := by
  have O := Hold.nil []
  generalize hB : (⟨[], []⟩ : Base) = B at O
  clear hB
  rw [e_laws_eqSymbolS]
  unfold t_laws_eqSymbolS
  refine sim_let (v := iv (((a_.getD []).length : Nat) : Int)) (Tab.enc [] a_).len ?_
  refine sim_let (v := iv (((b_.getD []).length : Nat) : Int)) (Tab.enc [] b_).len ?_
  refine sim_let (v := bv (!decide ((((a_.getD []).length : Nat) : Int) = (((b_.getD []).length : Nat) : Int)))) (aCmp_ne _ _) ?_
  refine sim_cond (fun c1 => ?_) (fun c1 => ?_)
  · exact sim_ret (release_plain (by rfl) _)
  · refine sim_bind ((tl0_laws_eqSymbolS env he_laws_eqSymbol a_ b_) ⟨rfl, O⟩) (fun qq28 r hq => ?_)
    rcases qq28 with _ | q11
    · obtain ⟨q8, z7, h5, rfl, O6⟩ := hq
      rw [e_lk0x0_laws_eqSymbolS]
      exact sim_ret (release_plain (by rfl) _)
    · obtain ⟨q12, h9, rfl, O10⟩ := hq
      rw [e_lk0r_laws_eqSymbolS]
      exact sim_ret (release_plain (by rfl) _)
theorem tt_laws_eqSymbolS : PureOK Try.prog n_laws_eqSymbolS (C2 (fun c : Bool => enc c) t_laws_eqSymbolS) := pureC2 (Econs ok_laws_eqSymbol E0) mixed hb_laws_eqSymbolS fun a_ b_ => ts_laws_eqSymbolS _ (by simp [envL]) a_ b_

def t_laws_FnExactRelationTable (aList_ : Sl Symbol) : Option Bool :=
  obind (t_laws_szSymbolS aList_ 1048576) fun c1 =>
  bif decide (c1 < 0) then
    some true
  else
    obind (t_laws_toSymbolS aList_) fun c3 =>
    obind (t_spec_RelationTable c3) fun c8 =>
    obind (t_laws_toSymbolS aList_) fun c15 =>
    obind (t_impl_RelationTable c15) fun c20 =>
    obind (t_laws_eqInt64SS c20.1 c8.1) fun c27 =>
    obind (bif !c27 then some false else (some (!decide (c20.2 = c8.2)))) fun c29 =>
    bif (bif !c27 then true else c29) then
      some false
    else
      obind (t_laws_toSymbolS aList_) fun c31 =>
      obind (t_laws_eqSymbolS c15 c31) fun c36 =>
      bif !c36 then
        some false
      else
        obind (t_laws_markSymbolS c15 1) fun (r38, w39) =>
        obind (bif decide (r38 < 0) then some false else (obind (t_laws_eqInt64SS c20.1 c8.1) fun c43 => some (!c43))) fun c44 =>
        obind (bif (bif decide (r38 < 0) then true else c44) then some false else (some (!decide (c20.2 = c8.2)))) fun c46 =>
        bif (bif (bif decide (r38 < 0) then true else c44) then true else c46) then
          some false
        else
          obind (t_laws_markInt64SS c20.1 1) fun (r48, w49) =>
          obind (t_laws_heldInt64SS w49 1) fun c54 =>
          bif decide (c54 < 0) then
            some false
          else
            bif !decide (c54 = r48) then
              some false
            else
              obind (t_laws_toSymbolS aList_) fun c57 =>
              obind (t_impl_RelationTable c57) fun c62 =>
              obind (t_laws_eqInt64SS c62.1 c8.1) fun c69 =>
              obind (bif !c69 then some false else (some (!decide (c62.2 = c8.2)))) fun c71 =>
              bif (bif !c69 then true else c71) then
                some false
              else
                obind (t_laws_heldInt64SS w49 1) fun c73 =>
                bif decide (c73 < 0) then
                  some false
                else
                  bif !decide (c73 = r48) then
                    some false
                  else
                    some true

theorem ts_laws_FnExactRelationTable (env : Nat → Contract) (he_impl_RelationTable : env n_impl_RelationTable = .pure (C1 (fun c : (Sl (Sl Int)) × Int => AV.tup [rD c.1, enc c.2]) t_impl_RelationTable)) (he_laws_eqInt64SS : env n_laws_eqInt64SS = .pure (C2 (fun c : Bool => enc c) t_laws_eqInt64SS)) (he_laws_eqSymbolS : env n_laws_eqSymbolS = .pure (C2 (fun c : Bool => enc c) t_laws_eqSymbolS)) (he_laws_heldInt64SS : env n_laws_heldInt64SS = .pure (C2 (fun c : Int => enc c) t_laws_heldInt64SS)) (he_laws_markInt64SS : env n_laws_markInt64SS = .gen (denFn Try.prog ev_laws_markInt64SS n_laws_markInt64SS)) (he_laws_markSymbolS : env n_laws_markSymbolS = .gen (denFn Try.prog ev_laws_markSymbolS n_laws_markSymbolS)) (he_laws_szSymbolS : env n_laws_szSymbolS = .pure (C2 (fun c : Int => enc c) t_laws_szSymbolS)) (he_laws_toSymbolS : env n_laws_toSymbolS = .pure (C1 (fun c : (Sl Symbol) => rS c) t_laws_toSymbolS)) (he_spec_RelationTable : env n_spec_RelationTable = .pure (C1 (fun c : (Sl (Sl Int)) × Int => AV.tup [rD c.1, enc c.2]) t_spec_RelationTable)) (aList_ : Sl Symbol) : Sim (denFn Try.prog env n_laws_FnExactRelationTable [Sl.enc aList_] []) (t_laws_FnExactRelationTable aList_) fun c p => release p.2 depth p.1 = some ((fun c : Bool => enc c) c) := by
  have O := Hold.nil []
  generalize hB : (⟨[], []⟩ : Base) = B at O
  clear hB
  rw [e_laws_FnExactRelationTable]
  unfold t_laws_FnExactRelationTable
  refine sim_call2 he_laws_szSymbolS (snapD_enc _ _) (snapD_int _ _) (fun c1 => ?_)
  refine sim_let2 (hand_plain (by rfl) _ _) ?_
  refine sim_let (v := bv (decide (c1 < 0))) (aBin_lss _ _) ?_
  refine sim_cond (fun c2 => ?_) (fun c2 => ?_)
  · exact sim_ret (release_plain (by rfl) _)
  · refine sim_call1 he_laws_toSymbolS (snapD_enc _ _) (fun c3 => ?_)
    refine sim_hand (A := Symbol) O (fun x5 h6 O7 => ?_)
    replace O7 : Hold B h6 [(x5, obS (c3 : Sl Symbol))] := O7
    refine sim_call1 he_spec_RelationTable ((O7.tab (A := Symbol) (s := c3) 0 rfl).snap) (fun c8 => ?_)
    refine sim_handNC (l := [(x5, obS (c3 : Sl Symbol))]) (A := (Sl Int)) 5 O7 (s := c8.1) (fun z1 => AV.tup [z1, iv c8.2]) (by intro b; simp only [mat_tup, mat_aggD, mat_agg, matLc, matLn, mat_iv, mat_bv, mat_sv, mat_bt, mat_nilS, List.append_nil, List.nil_append]) (fun hn => by have hn : noF 7 (rD c8.1) = true := hn; simp only [noF_tup, noF_aggD, noF_agg, noF_iv, noF_bv, noF_sv, noF_bt, noF_nilS, hn, List.all_cons, List.all_nil, Bool.and_self]) (fun x10 ps13 h11 hp14 O12 => ?_)
    refine sim_let (v := x10) rfl ?_
    refine sim_let (v := iv c8.2) rfl ?_
    refine sim_call1 he_laws_toSymbolS (snapD_enc _ _) (fun c15 => ?_)
    refine sim_hand (A := Symbol) O12 (fun x17 h18 O19 => ?_)
    replace O19 : Hold B h18 ([(x5, obS (c3 : Sl Symbol)), (x17, obS (c15 : Sl Symbol))] ++ D2 (A := (Sl Int)) x10 ps13) := Hold.rot O19
    refine sim_call1 he_impl_RelationTable ((O19.tab (A := Symbol) (s := c15) 1 rfl).snap) (fun c20 => ?_)
    refine sim_handNC (l := ([(x5, obS (c3 : Sl Symbol)), (x17, obS (c15 : Sl Symbol))] ++ D2 (A := (Sl Int)) x10 ps13)) (A := (Sl Int)) 5 O19 (s := c20.1) (fun z1 => AV.tup [z1, iv c20.2]) (by intro b; simp only [mat_tup, mat_aggD, mat_agg, matLc, matLn, mat_iv, mat_bv, mat_sv, mat_bt, mat_nilS, List.append_nil, List.nil_append]) (fun hn => by have hn : noF 7 (rD c20.1) = true := hn; simp only [noF_tup, noF_aggD, noF_agg, noF_iv, noF_bv, noF_sv, noF_bt, noF_nilS, hn, List.all_cons, List.all_nil, Bool.and_self]) (fun x22 ps25 h23 hp26 O24 => ?_)
    refine sim_let (v := x22) rfl ?_
    refine sim_let (v := iv c20.2) rfl ?_
    refine sim_call2 he_laws_eqInt64SS ((D2.snapD (l := ([(x5, obS (c3 : Sl Symbol)), (x17, obS (c15 : Sl Symbol))] ++ D2 (A := (Sl Int)) x10 ps13)) (x := x22) (ps := ps25) (A := (Sl Int)) O24 hp26).2) ((D2.snapD (l := ([(x5, obS (c3 : Sl Symbol)), (x17, obS (c15 : Sl Symbol))] ++ D2 (A := (Sl Int)) x22 ps25)) (x := x10) (ps := ps13) (A := (Sl Int)) (Hold.sw20 O24) hp14).2) (fun c27 => ?_)
    refine sim_let2 (hand_plain (by rfl) _ _) ?_
    refine sim_let (v := bv (!c27)) (aUn_not _) ?_
    refine sim_guardF (e := bv) (fun hb28 => ?_) (fun c29 => ?_)
    · refine sim_let (v := bv (!decide (c20.2 = c8.2))) (aCmp_ne _ _) ?_
      exact sim_ret rfl
    · refine sim_let (v := bv (bif !c27 then true else c29)) (pick_b' _ _ _) ?_
      refine sim_cond (fun c30 => ?_) (fun c30 => ?_)
      · exact sim_ret (release_plain (by rfl) _)
      · refine sim_call1 he_laws_toSymbolS (snapD_enc _ _) (fun c31 => ?_)
        refine sim_hand (A := Symbol) O24 (fun x33 h34 O35 => ?_)
        replace O35 : Hold B h34 ([(x5, obS (c3 : Sl Symbol)), (x17, obS (c15 : Sl Symbol)), (x33, obS (c31 : Sl Symbol))] ++ D2 (A := (Sl Int)) x10 ps13 ++ D2 (A := (Sl Int)) x22 ps25) := Hold.rot2 O35
        refine sim_call2 he_laws_eqSymbolS ((O35.tab (A := Symbol) (s := c15) 1 rfl).snap) ((O35.tab (A := Symbol) (s := c31) 2 rfl).snap) (fun c36 => ?_)
        refine sim_let2 (hand_plain (by rfl) _ _) ?_
        refine sim_let (v := bv (!c36)) (aUn_not _) ?_
        refine sim_cond (fun c37 => ?_) (fun c37 => ?_)
        · exact sim_ret (release_plain (by rfl) _)
        · refine sim_mark (A := Symbol) O35 1 rfl he_laws_markSymbolS mk_laws_markSymbolS (fun r38 w39 h40 O41 => ?_)
          replace O41 : Hold B h40 ([(x5, obS (c3 : Sl Symbol)), (x17, obS (w39 : Sl Symbol)), (x33, obS (c31 : Sl Symbol))] ++ D2 (A := (Sl Int)) x10 ps13 ++ D2 (A := (Sl Int)) x22 ps25) := O41
          refine sim_let (v := bv (decide (r38 < 0))) (aBin_lss _ _) ?_
          refine sim_guardF (e := bv) (fun hb42 => ?_) (fun c44 => ?_)
          · refine sim_call2 he_laws_eqInt64SS ((D2.snapD (l := ([(x5, obS (c3 : Sl Symbol)), (x17, obS (w39 : Sl Symbol)), (x33, obS (c31 : Sl Symbol))] ++ D2 (A := (Sl Int)) x10 ps13)) (x := x22) (ps := ps25) (A := (Sl Int)) O41 hp26).2) ((D2.snapD (l := ([(x5, obS (c3 : Sl Symbol)), (x17, obS (w39 : Sl Symbol)), (x33, obS (c31 : Sl Symbol))] ++ D2 (A := (Sl Int)) x22 ps25)) (x := x10) (ps := ps13) (A := (Sl Int)) (Hold.sw20 O41) hp14).2) (fun c43 => ?_)
            refine sim_let2 (hand_plain (by rfl) _ _) ?_
            refine sim_let (v := bv (!c43)) (aUn_not _) ?_
            exact sim_ret rfl
          · refine sim_let (v := bv (bif decide (r38 < 0) then true else c44)) (pick_b' _ _ _) ?_
            refine sim_guardF (e := bv) (fun hb45 => ?_) (fun c46 => ?_)
            · refine sim_let (v := bv (!decide (c20.2 = c8.2))) (aCmp_ne _ _) ?_
              exact sim_ret rfl
            · refine sim_let (v := bv (bif (bif decide (r38 < 0) then true else c44) then true else c46)) (pick_b' _ _ _) ?_
              refine sim_cond (fun c47 => ?_) (fun c47 => ?_)
              · exact sim_ret (release_plain (by rfl) _)
              · refine sim_markD (l := ([(x5, obS (c3 : Sl Symbol)), (x17, obS (w39 : Sl Symbol)), (x33, obS (c31 : Sl Symbol))] ++ D2 (A := (Sl Int)) x10 ps13)) (x := x22) (ps := ps25) (A := (Sl Int)) O41 hp26 he_laws_markInt64SS mk_laws_markInt64SS (fun r48 w49 ps52 h50 hp53 O51 => ?_)
                refine sim_call2 he_laws_heldInt64SS ((D2.snapD (l := ([(x5, obS (c3 : Sl Symbol)), (x17, obS (w39 : Sl Symbol)), (x33, obS (c31 : Sl Symbol))] ++ D2 (A := (Sl Int)) x10 ps13)) (x := x22) (ps := ps52) (A := (Sl Int)) O51 hp53).2) (snapD_int _ _) (fun c54 => ?_)
                refine sim_let2 (hand_plain (by rfl) _ _) ?_
                refine sim_let (v := bv (decide (c54 < 0))) (aBin_lss _ _) ?_
                refine sim_cond (fun c55 => ?_) (fun c55 => ?_)
                · exact sim_ret (release_plain (by rfl) _)
                · refine sim_let (v := bv (!decide (c54 = r48))) (aCmp_ne _ _) ?_
                  refine sim_cond (fun c56 => ?_) (fun c56 => ?_)
                  · exact sim_ret (release_plain (by rfl) _)
                  · refine sim_call1 he_laws_toSymbolS (snapD_enc _ _) (fun c57 => ?_)
                    refine sim_hand (A := Symbol) O51 (fun x59 h60 O61 => ?_)
                    replace O61 : Hold B h60 ([(x5, obS (c3 : Sl Symbol)), (x17, obS (w39 : Sl Symbol)), (x33, obS (c31 : Sl Symbol)), (x59, obS (c57 : Sl Symbol))] ++ D2 (A := (Sl Int)) x10 ps13 ++ D2 (A := (Sl Int)) x22 ps52) := Hold.rot2 O61
                    refine sim_call1 he_impl_RelationTable ((O61.tab (A := Symbol) (s := c57) 3 rfl).snap) (fun c62 => ?_)
                    refine sim_handNC (l := ([(x5, obS (c3 : Sl Symbol)), (x17, obS (w39 : Sl Symbol)), (x33, obS (c31 : Sl Symbol)), (x59, obS (c57 : Sl Symbol))] ++ D2 (A := (Sl Int)) x10 ps13 ++ D2 (A := (Sl Int)) x22 ps52)) (A := (Sl Int)) 5 O61 (s := c62.1) (fun z1 => AV.tup [z1, iv c62.2]) (by intro b; simp only [mat_tup, mat_aggD, mat_agg, matLc, matLn, mat_iv, mat_bv, mat_sv, mat_bt, mat_nilS, List.append_nil, List.nil_append]) (fun hn => by have hn : noF 7 (rD c62.1) = true := hn; simp only [noF_tup, noF_aggD, noF_agg, noF_iv, noF_bv, noF_sv, noF_bt, noF_nilS, hn, List.all_cons, List.all_nil, Bool.and_self]) (fun x64 ps67 h65 hp68 O66 => ?_)
                    refine sim_let (v := x64) rfl ?_
                    refine sim_let (v := iv c62.2) rfl ?_
                    refine sim_call2 he_laws_eqInt64SS ((D2.snapD (l := ([(x5, obS (c3 : Sl Symbol)), (x17, obS (w39 : Sl Symbol)), (x33, obS (c31 : Sl Symbol)), (x59, obS (c57 : Sl Symbol))] ++ D2 (A := (Sl Int)) x10 ps13 ++ D2 (A := (Sl Int)) x22 ps52)) (x := x64) (ps := ps67) (A := (Sl Int)) O66 hp68).2) ((D2.snapD (l := ([(x5, obS (c3 : Sl Symbol)), (x17, obS (w39 : Sl Symbol)), (x33, obS (c31 : Sl Symbol)), (x59, obS (c57 : Sl Symbol))] ++ D2 (A := (Sl Int)) x22 ps52 ++ D2 (A := (Sl Int)) x64 ps67)) (x := x10) (ps := ps13) (A := (Sl Int)) (Hold.sw30 O66) hp14).2) (fun c69 => ?_)
                    refine sim_let2 (hand_plain (by rfl) _ _) ?_
                    refine sim_let (v := bv (!c69)) (aUn_not _) ?_
                    refine sim_guardF (e := bv) (fun hb70 => ?_) (fun c71 => ?_)
                    · refine sim_let (v := bv (!decide (c62.2 = c8.2))) (aCmp_ne _ _) ?_
                      exact sim_ret rfl
                    · refine sim_let (v := bv (bif !c69 then true else c71)) (pick_b' _ _ _) ?_
                      refine sim_cond (fun c72 => ?_) (fun c72 => ?_)
                      · exact sim_ret (release_plain (by rfl) _)
                      · refine sim_call2 he_laws_heldInt64SS ((D2.snapD (l := ([(x5, obS (c3 : Sl Symbol)), (x17, obS (w39 : Sl Symbol)), (x33, obS (c31 : Sl Symbol)), (x59, obS (c57 : Sl Symbol))] ++ D2 (A := (Sl Int)) x10 ps13 ++ D2 (A := (Sl Int)) x64 ps67)) (x := x22) (ps := ps52) (A := (Sl Int)) (Hold.sw31 O66) hp53).2) (snapD_int _ _) (fun c73 => ?_)
                        refine sim_let2 (hand_plain (by rfl) _ _) ?_
                        refine sim_let (v := bv (decide (c73 < 0))) (aBin_lss _ _) ?_
                        refine sim_cond (fun c74 => ?_) (fun c74 => ?_)
                        · exact sim_ret (release_plain (by rfl) _)
                        · refine sim_let (v := bv (!decide (c73 = r48))) (aCmp_ne _ _) ?_
                          refine sim_cond (fun c75 => ?_) (fun c75 => ?_)
                          · exact sim_ret (release_plain (by rfl) _)
                          · exact sim_ret (release_plain (by rfl) _)
theorem tt_laws_FnExactRelationTable : PureOK Try.prog n_laws_FnExactRelationTable (C1 (fun c : Bool => enc c) t_laws_FnExactRelationTable) := pureC1 (Econs tt_impl_RelationTable (Econs tt_laws_eqInt64SS (Econs tt_laws_eqSymbolS (Econs tt_laws_heldInt64SS (EconsG (gen_of_den eo_laws_markInt64SS mixed hb_laws_markInt64SS) (EconsG (gen_of_den eo_laws_markSymbolS mixed hb_laws_markSymbolS) (Econs tt_laws_szSymbolS (Econs tt_laws_toSymbolS (Econs tt_spec_RelationTable E0))))))))) mixed hb_laws_FnExactRelationTable fun aList_ => ts_laws_FnExactRelationTable _ (by simp [envL]) (by simp [envL]) (by simp [envL]) (by simp [envL]) (by simp [envL]) (by simp [envL]) (by simp [envL]) (by simp [envL]) (by simp [envL]) aList_

theorem wr_succ {k n : Nat} (h : k < n) (hn : n ≤ 4294967296) : wr ((k : Int) + 1) = ((k + 1 : Nat) : Int) := by
  rw [wr_id (by omega) (by omega)]
  omega

theorem get_lt {A : Type} {l : List A} {k : Nat} {a : A} (h : l[k]? = some a) : k < l.length := (List.getElem?_eq_some_iff.1 h).1

/-- A point that is one; the points of a stroke that is one. -/
structure PtV (p : Point) : Prop where
  x0 : 0 ≤ p.x
  x1 : p.x ≤ 4095
  y0 : 0 ≤ p.y
  y1 : p.y ≤ 4095
  t0 : 0 ≤ p.t
  t1 : p.t ≤ 3600000

theorem appS_cons {A : Type} (s : Sl A) (a : A) (l : List A) : appS s (a :: l) = some (s.getD [] ++ a :: l) := by cases s <;> rfl

theorem firstL_so {A R : Type} {f : Nat → A → Option R} : ∀ {l : List A} {k : Nat} {r : R}, firstL f l k = some r → ∃ i a, f i a = some r
  | [], _, _, h => by cases h
  | b :: l, k, r, h => by
    unfold firstL at h
    cases e : f k b with
    | some r' => rw [e] at h; cases h; exact ⟨k, b, e⟩
    | none => rw [e] at h; exact firstL_so h

def pt (l : List Point) (i : Nat) : Point := l.getD i ⟨0, 0, 0⟩

/-- One pair lies ahead of another. -/
def Pre (p q i j : Nat) : Prop := (i = p + 1 ∧ j = q + 1) ∨ (i = p + 1 ∧ j = q) ∨ (i = p ∧ j = q + 1)

/-- A table's entry. -/
def Val (T : List (Sl Int)) (p q : Nat) (v : Int) : Prop := ∃ row, T[p]? = some (some row) ∧ row[q]? = some v

theorem Val.set {T : List (Sl Int)} {i j p q : Nat} {row : List Int} {v w : Int} (hr : T[i]? = some (some row)) (hj : j < row.length) :
    Val (T.set i (some (row.set j w))) p q v ↔ (p = i ∧ q = j ∧ v = w) ∨ (¬ (p = i ∧ q = j) ∧ Val T p q v) := by
  have hi := get_lt hr
  unfold Val
  constructor
  · rintro ⟨r, h1, h2⟩
    by_cases c : i = p
    · subst c
      rw [List.getElem?_set_self hi] at h1
      cases h1
      by_cases d : j = q
      · subst d
        rw [List.getElem?_set_self hj] at h2
        cases h2
        exact .inl ⟨rfl, rfl, rfl⟩
      · rw [List.getElem?_set_ne d] at h2
        exact .inr ⟨fun h => d h.2.symm, row, hr, h2⟩
    · rw [List.getElem?_set_ne c] at h1
      exact .inr ⟨fun h => c h.1.symm, r, h1, h2⟩
  · rintro (⟨rfl, rfl, rfl⟩ | ⟨hne, r, h1, h2⟩)
    · exact ⟨_, List.getElem?_set_self hi, List.getElem?_set_self hj⟩
    · by_cases c : i = p
      · subst c
        rw [hr] at h1
        cases h1
        have d : j ≠ q := fun h => hne ⟨rfl, h.symm⟩
        exact ⟨_, List.getElem?_set_self hi, by rw [List.getElem?_set_ne d]; exact h2⟩
      · exact ⟨r, by rw [List.getElem?_set_ne c]; exact h1, h2⟩

/-- A path read from its end on, with its cost. -/
inductive Tr (C : Nat → Nat → Int) (R : Nat → Nat → Prop) : Nat → Nat → Int → List Pair → Prop
  | start : R 0 0 → Tr C R 0 0 (C 0 0) [⟨0, 0⟩]
  | step {p q i j : Nat} {c : Int} {L : List Pair} : Tr C R p q c L → Pre p q i j → R i j → Tr C R i j (c + C i j) (⟨(i : Int), (j : Int)⟩ :: L)

theorem Tr.head {C : Nat → Nat → Int} {R : Nat → Nat → Prop} {i j : Nat} {c : Int} {L : List Pair} (h : Tr C R i j c L) : ∃ L', L = ⟨(i : Int), (j : Int)⟩ :: L' := by
  cases h with
  | start h => exact ⟨[], rfl⟩
  | step h1 h2 h3 => exact ⟨_, rfl⟩

def PVal (T : List (Sl Part)) (p q : Nat) (v : Part) : Prop := ∃ row, T[p]? = some (some row) ∧ row[q]? = some v

theorem PVal.set {T : List (Sl Part)} {i j p q : Nat} {row : List Part} {v w : Part} (hr : T[i]? = some (some row)) (hj : j < row.length) :
    PVal (T.set i (some (row.set j w))) p q v ↔ (p = i ∧ q = j ∧ v = w) ∨ (¬ (p = i ∧ q = j) ∧ PVal T p q v) := by
  have hi := get_lt hr
  unfold PVal
  constructor
  · rintro ⟨r, h1, h2⟩
    by_cases c : i = p
    · subst c
      rw [List.getElem?_set_self hi] at h1
      cases h1
      by_cases d : j = q
      · subst d
        rw [List.getElem?_set_self hj] at h2
        cases h2
        exact .inl ⟨rfl, rfl, rfl⟩
      · rw [List.getElem?_set_ne d] at h2
        exact .inr ⟨fun h => d h.2.symm, row, hr, h2⟩
    · rw [List.getElem?_set_ne c] at h1
      exact .inr ⟨fun h => c h.1.symm, r, h1, h2⟩
  · rintro (⟨rfl, rfl, rfl⟩ | ⟨hne, r, h1, h2⟩)
    · exact ⟨_, List.getElem?_set_self hi, List.getElem?_set_self hj⟩
    · by_cases c : i = p
      · subst c
        rw [hr] at h1
        cases h1
        have d : j ≠ q := fun h => hne ⟨rfl, h.symm⟩
        exact ⟨_, List.getElem?_set_self hi, by rw [List.getElem?_set_ne d]; exact h2⟩
      · exact ⟨r, by rw [List.getElem?_set_ne c]; exact h1, h2⟩

def d2 (a b : Point) : Int := (a.x - b.x) * (a.x - b.x) + (a.y - b.y) * (a.y - b.y)

def pbox (p : Point) : Box := ⟨p.x, p.y, p.x, p.y⟩

/-- One box is in another one. -/
structure InB (a b : Box) : Prop where
  x1 : b.x1 ≤ a.x1
  y1 : b.y1 ≤ a.y1
  x2 : a.x2 ≤ b.x2
  y2 : a.y2 ≤ b.y2

theorem PtV.box {p : Point} (h : PtV p) : InB (pbox p) ⟨0, 0, 4095, 4095⟩ := ⟨h.x0, h.y0, h.x1, h.y1⟩

/-- A copy, element by element. -/
theorem copyLoop {A : Type} (d : A) (l : List A) (hl : l.length ≤ 4294967296) (step : ((Sl A) × Int) → Option (Sum ((Sl A) × Int) (Sl A)))
    (next : ∀ (M : List A) (k : Nat) (a : A), M.length = l.length → l[k]? = some a → step (some M, (k : Int)) = some (.inl (some (M.set k a), wr ((k : Int) + 1))))
    (fin : ∀ w : Sl A, step (w, ((l.length : Nat) : Int)) = some (.inr w)) : loopT step (some (List.replicate l.length d), 0) = some (some l) := by
  obtain ⟨r, h1, h2⟩ := loopT_ex (step := step) (fun k t => ∃ M, t = (some M, (k : Int)) ∧ M.length = l.length ∧ ∀ j, j < k → M[j]? = l[j]?) l.length (fun r => r = some l)
    (fun k t hk ht => by
      obtain ⟨M, rfl, m1, m2⟩ := ht
      obtain ⟨a, ha⟩ : ∃ a, l[k]? = some a := ⟨l[k], List.getElem?_eq_getElem hk⟩
      have e := next M k a m1 ha
      rw [wr_succ hk hl] at e
      refine .inl ⟨_, e, _, rfl, by rw [List.length_set, m1], fun j hj => ?_⟩
      by_cases c : j = k
      · subst c
        rw [List.getElem?_set_self (by omega), ha]
      · rw [List.getElem?_set_ne (fun h => c h.symm)]
        exact m2 j (by omega))
    (fun t ht => by
      obtain ⟨M, rfl, m1, m2⟩ := ht
      refine ⟨_, fin _, ?_⟩
      congr 1
      apply List.ext_getElem?
      intro j
      by_cases c : j < l.length
      · exact m2 j c
      · rw [List.getElem?_eq_none (by omega), List.getElem?_eq_none (by omega)])
    (s := (some (List.replicate l.length d), 0)) ⟨_, rfl, by simp, fun j hj => by omega⟩
  rw [h1, h2]

theorem eqI_ok {a b : Sl Int} (h : a.getD [] = b.getD []) (hl : (a.getD []).length ≤ 4294967296) : t_laws_eqInt64S a b = some true := by
  have lp := loopT_first (step := s0_laws_eqInt64S a b) (a.getD []) (fun _ _ => (none : Option Bool)) (.inl ()) .inr
    (fun k x hx => by
      have hk := get_lt hx
      have c : (k : Int) < ((a.getD []).length : Nat) := by omega
      unfold s0_laws_eqInt64S
      simp only [c, decide_true, cond_true, getI_nat hx, ← h, obind_sm, Bool.not_true, cond_false, wr_succ hk hl])
    (by
      unfold s0_laws_eqInt64S
      simp only [Int.lt_irrefl, decide_false, cond_false])
  rw [firstL_none (fun _ _ _ => rfl)] at lp
  unfold t_laws_eqInt64S
  rw [lp, ← h]
  simp

theorem mkI_get : ∀ (n : Nat) (k : Int) (i : Nat), i < n → (mkI k n)[i]? = some (k + i)
  | 0, _, _, h => by omega
  | n + 1, k, 0, _ => by simp [mkI]
  | n + 1, k, i + 1, h => by
    have := mkI_get n (k + 1) i (by omega)
    simp only [mkI, List.getElem?_cons_succ, this]
    congr 1
    omega

theorem appO_big {A : Type} (s : Sl A) (a : A) (h : (s.getD []).length ≤ 2000000) : appO s [a] = some (some (s.getD [] ++ [a])) := by
  rw [appO_some (by simp; omega), appS_cons]

/-- A long list that is built by a loop. -/
theorem buildLoopB {A : Type} (l : List A) {n : Nat} (hn : l.length = n) (h1 : n ≤ 2000000) (i0 : Nat) (s0 : Sl A) (hs0 : s0.getD [] = []) (step : ((Sl A) × Int) → Option (Sum ((Sl A) × Int) (Sl A)))
    (next : ∀ (w : Sl A) (k : Nat) a, l[k]? = some a → step (w, ((k + i0 : Nat) : Int)) = obind (appO w [a]) fun _ => some (.inl (appS w [a], wr (((k + i0 : Nat) : Int) + 1))))
    (hi0 : i0 ≤ 1000) (fin : ∀ (w : Sl A), step (w, ((n + i0 : Nat) : Int)) = some (.inr w)) : ∃ q, loopT step (s0, (i0 : Int)) = some q ∧ q.getD [] = l := by
  have h := loopT_ex (step := step) (fun k t => t.1.getD [] = l.take k ∧ t.2 = ((k + i0 : Nat) : Int)) n (fun q => q.getD [] = l)
    (fun k ⟨w, i⟩ hk ⟨g1, g2⟩ => by
      simp only at g1 g2
      subst g2
      obtain ⟨a, ha⟩ : ∃ a, l[k]? = some a := ⟨l[k]'(by omega), List.getElem?_eq_getElem _⟩
      have e := next w k a ha
      have ws : wr (((k + i0 : Nat) : Int) + 1) = ((k + 1 + i0 : Nat) : Int) := by rw [wr_id (by omega) (by omega)]; omega
      rw [ws, appO_big w a (by rw [g1, List.length_take]; omega), obind_sm, appS_cons] at e
      refine .inl ⟨_, e, ?_, rfl⟩
      show w.getD [] ++ [a] = _
      rw [g1, List.take_add_one, ha]
      rfl)
    (fun ⟨w, i⟩ ⟨g1, g2⟩ => by
      simp only at g1 g2
      subst g2
      refine ⟨w, fin w, ?_⟩
      rw [g1, List.take_of_length_le (by omega)])
    (s := (s0, (i0 : Int))) ⟨by rw [hs0, List.take_zero], by simp⟩
  exact h

/-- The rows of a table. -/
def rowsL (s : Sl (Sl Int)) : List (List Int) := (s.getD []).map fun a => a.getD []

theorem rowsL_len (s : Sl (Sl Int)) : (rowsL s).length = (s.getD []).length := by simp [rowsL]

theorem rowsL_get {s : Sl (Sl Int)} {k : Nat} {r : List Int} (h : (rowsL s)[k]? = some r) : ∃ a, (s.getD [])[k]? = some a ∧ a.getD [] = r := by
  unfold rowsL at h
  rw [List.getElem?_map] at h
  cases e : (s.getD [])[k]? with
  | none => rw [e] at h; cases h
  | some a => rw [e] at h; exact ⟨a, rfl, Option.some.inj h⟩

theorem eqSS_ok {a b : Sl (Sl Int)} (h : rowsL a = rowsL b) (hl : (rowsL a).length ≤ 4294967296) (hr : ∀ r ∈ rowsL a, r.length ≤ 4294967296) : t_laws_eqInt64SS a b = some true := by
  have ll : (a.getD []).length = (b.getD []).length := by rw [← rowsL_len, ← rowsL_len, h]
  rw [rowsL_len] at hl
  have lp := loopT_first (step := s0_laws_eqInt64SS a b) (a.getD []) (fun _ _ => (none : Option Bool)) (.inl ()) .inr
    (fun k x hx => by
      have hk := get_lt hx
      have c : (k : Int) < ((a.getD []).length : Nat) := by omega
      have hR : (rowsL a)[k]? = some (x.getD []) := by
        unfold rowsL
        rw [List.getElem?_map, hx]
        rfl
      obtain ⟨y, hy, e⟩ := rowsL_get (h ▸ hR)
      have q := eqI_ok (a := x) (b := y) e.symm (hr _ (List.mem_of_getElem? hR))
      unfold s0_laws_eqInt64SS
      simp only [c, decide_true, cond_true, getI_nat hx, getI_nat hy, obind_sm, q, Bool.not_true, cond_false, wr_succ hk hl])
    (by
      unfold s0_laws_eqInt64SS
      simp only [Int.lt_irrefl, decide_false, cond_false])
  rw [firstL_none (fun _ _ _ => rfl)] at lp
  unfold t_laws_eqInt64SS
  rw [lp, ← ll]
  simp

theorem held_k {s : Sl Int} {n : Nat} {k : Int} (h0 : 0 ≤ k) (hs : s.getD [] = mkI k n) (hn : k + n ≤ 1000000000) : t_laws_heldInt64S s k = some (k + (n : Int)) := by
  have lp := loopT_at (step := s0_laws_heldInt64S s) n (fun j => (k + (j : Int), (j : Int))) (.inl (k + (n : Int)))
    (fun j hk => by
      have c : (j : Int) < (((mkI k n).length : Nat) : Int) := by rw [mkI_len]; omega
      have ws := wr_succ hk (show n ≤ 4294967296 by omega)
      have w2 : wr (k + (j : Int) + 1) = k + ((j + 1 : Nat) : Int) := by rw [wr_id (by omega) (by omega)]; omega
      unfold s0_laws_heldInt64S
      simp only [hs, c, decide_true, cond_true, getI_nat (mkI_get n k j hk), obind_sm, Bool.not_true, cond_false, ws, w2])
    (by
      have c : ¬ (n : Int) < (((mkI k n).length : Nat) : Int) := by rw [mkI_len]; omega
      unfold s0_laws_heldInt64S
      simp only [hs, c, decide_false, cond_false])
    0 (Nat.zero_le _)
  have lp' : loopT (s0_laws_heldInt64S s) (k, 0) = some (.inl (k + (n : Int))) := by
    simpa using lp
  unfold t_laws_heldInt64S
  rw [lp', obind_sm]

def totL (l : List (Sl Int)) : Nat := (l.map fun a => (a.getD []).length).sum

/-- Marks and what is held. -/
theorem mkL_ok : ∀ (l : List (Sl Int)) (k : Int), 0 ≤ k → k + totL l ≤ 1000000000 → ∃ l', mkL l k = some (k + totL l, l') ∧ l'.length = l.length ∧ ∀ (i : Nat) (k' : Int) , k' = k + totL (l.take i) → i < l.length → ∃ a, l'[i]? = some a ∧ t_laws_heldInt64S a k' = some (k + totL (l.take (i + 1)))
  | [], k, _, _ => ⟨[], by simp [mkL, totL], rfl, fun i _ _ h => by simp at h⟩
  | a :: l, k, h0, h1 => by
    have e : totL (a :: l) = (a.getD []).length + totL l := by simp [totL]
    rw [e] at h1
    have m1 : t_laws_markInt64S a k = some (k + 1 * (((a.getD []).length : Nat) : Int), a.map fun l => mkI k l.length) := by
      unfold t_laws_markInt64S
      have d1 : decide ((0 : Int) ≤ k) = true := decide_eq_true h0
      have d2 : decide (k + 1 * (((a.getD []).length : Nat) : Int) ≤ 1000000000) = true := decide_eq_true (by omega)
      rw [d1, d2]
      rfl
    have hv : (a.map fun l => mkI k l.length).getD [] = mkI k (a.getD []).length := by cases a <;> rfl
    have hh := held_k h0 hv (by omega)
    obtain ⟨l', g1, g2, g3⟩ := mkL_ok l (k + 1 * (((a.getD []).length : Nat) : Int)) (by omega) (by omega)
    refine ⟨(a.map fun l => mkI k l.length) :: l', ?_, by simp [g2], fun i k' hk hi => ?_⟩
    · simp only [mkL, m1, obind_sm, g1]
      rw [e]
      congr 2
      omega
    · cases i with
      | zero =>
        refine ⟨_, rfl, ?_⟩
        have : k' = k := by simpa [totL] using hk
        rw [this, hh]
        simp [totL]
      | succ i =>
        have t1 : ∀ j, totL ((a :: l).take (j + 1)) = (a.getD []).length + totL (l.take j) := fun j => by simp [totL]
        obtain ⟨y, y1, y2⟩ := g3 i k' (by rw [hk, t1]; omega) (by simpa using hi)
        refine ⟨y, by simpa using y1, ?_⟩
        rw [y2, t1]
        congr 1
        omega

theorem marksSS (g : Sl (Sl Int)) (hl : (g.getD []).length ≤ 4294967296) (ht : totL (g.getD []) ≤ 900000000) : ∃ v r, t_laws_markInt64SS g 1 = some (r, v) ∧ t_laws_heldInt64SS v 1 = some r ∧ 0 ≤ r := by
  obtain ⟨l', g1, g2, g3⟩ := mkL_ok (g.getD []) 1 (by omega) (by omega)
  have hm : ∃ v, t_laws_markInt64SS g 1 = some (1 + (totL (g.getD []) : Int), v) ∧ v.getD [] = l' := by
    unfold t_laws_markInt64SS
    have d : decide ((g.getD []).length ≤ 4294967296) = true := decide_eq_true hl
    rw [d]
    cases g with
    | none =>
      refine ⟨none, rfl, ?_⟩
      cases g1
      rfl
    | some l =>
      have g1' : mkL l 1 = some (1 + (totL l : Int), l') := g1
      refine ⟨some l', ?_, rfl⟩
      simp only [cond_true, g1', obind_sm]
      rfl
  obtain ⟨v, m1, m2⟩ := hm
  refine ⟨v, _, m1, ?_, by omega⟩
  have lp := loopT_at (step := s0_laws_heldInt64SS v) (g.getD []).length (fun j => (1 + (totL ((g.getD []).take j) : Int), (j : Int))) (.inl (1 + (totL (g.getD []) : Int)))
    (fun j hk => by
      obtain ⟨y, y1, y2⟩ := g3 j _ rfl hk
      have c : (j : Int) < (((v.getD []).length : Nat) : Int) := by rw [m2, g2]; omega
      have c2 : decide (1 + (totL ((g.getD []).take (j + 1)) : Int) < 0) = false := decide_eq_false (by omega)
      rw [← m2] at y1
      unfold s0_laws_heldInt64SS
      simp only [c, decide_true, cond_true, getI_nat y1, obind_sm, y2, c2, cond_false, wr_succ hk hl])
    (by
      have c : ¬ (((g.getD []).length : Nat) : Int) < (((v.getD []).length : Nat) : Int) := by rw [m2, g2]; omega
      unfold s0_laws_heldInt64SS
      simp only [c, decide_false, cond_false, List.take_length])
    0 (Nat.zero_le _)
  have lp' : loopT (s0_laws_heldInt64SS v) (1, 0) = some (.inl (1 + (totL (g.getD []) : Int))) := by
    simpa [totL] using lp
  unfold t_laws_heldInt64SS
  rw [lp', obind_sm]

theorem rowsL_app (s : Sl (Sl Int)) (a : Sl Int) : rowsL (appS s [a]) = rowsL s ++ [a.getD []] := by
  unfold rowsL
  rw [appS_getD]
  simp

theorem rows_small {L : List (List Int)} (h : (L.map List.length).sum ≤ 1048576) : ∀ r ∈ L, r.length ≤ 4294967296 := fun r hr => by
  have : ∀ (L : List (List Int)), r ∈ L → r.length ≤ (L.map List.length).sum := by
    intro L
    induction L with
    | nil => intro h; cases h
    | cons a L ih =>
      intro h
      rw [List.map_cons, List.sum_cons]
      rcases List.mem_cons.1 h with e | e
      · rw [e]
        omega
      · have := ih e
        omega
  have := this L hr
  omega

theorem totL_rows (s : Sl (Sl Int)) : totL (s.getD []) = ((rowsL s).map List.length).sum := by
  unfold totL rowsL
  rw [List.map_map]
  rfl

theorem toSymbolS_ok (a : Sl Symbol) (hl : (a.getD []).length ≤ 4294967296) : t_laws_toSymbolS a = some (some (a.getD [])) := by
  have mk : makeO (⟨(⟨#[]⟩ : ByteArray), ⟨0, 0, 0, 0⟩⟩ : Symbol) (((a.getD []).length : Nat) : Int) = some (List.replicate (a.getD []).length ⟨(⟨#[]⟩ : ByteArray), ⟨0, 0, 0, 0⟩⟩) := by
    unfold makeO
    rw [if_pos ⟨by omega, by omega⟩, Int.toNat_natCast]
  have lp := copyLoop (⟨(⟨#[]⟩ : ByteArray), ⟨0, 0, 0, 0⟩⟩ : Symbol) (a.getD []) hl (s0_laws_toSymbolS a) (fun M k x hM hx => by
    have hk := get_lt hx
    have c : (k : Int) < (((a.getD []).length : Nat) : Int) := by omega
    obtain ⟨y, hy⟩ : ∃ y, M[k]? = some y := ⟨M[k]'(by omega), List.getElem?_eq_getElem _⟩
    unfold s0_laws_toSymbolS
    simp only [c, decide_true, cond_true, getI_nat hx, obind_sm, Option.getD_some, getI_nat hy, setS, Option.map_some, Int.toNat_natCast]) (fun w => by
    unfold s0_laws_toSymbolS
    simp only [Int.lt_irrefl, decide_false, cond_false])
  unfold t_laws_toSymbolS
  rw [mk, obind_sm, lp, obind_sm]

theorem eqSy_ok {a b : Sl Symbol} (h : a.getD [] = b.getD []) (hl : (a.getD []).length ≤ 4294967296) : t_laws_eqSymbolS a b = some true := by
  have lp := loopT_first (step := s0_laws_eqSymbolS a b) (a.getD []) (fun _ _ => (none : Option Bool)) (.inl ()) .inr
    (fun k x hx => by
      have hk := get_lt hx
      have c : (k : Int) < ((a.getD []).length : Nat) := by omega
      unfold s0_laws_eqSymbolS
      simp only [c, decide_true, cond_true, getI_nat hx, ← h, obind_sm, Bool.not_true, cond_false, wr_succ hk hl])
    (by
      unfold s0_laws_eqSymbolS
      simp only [Int.lt_irrefl, decide_false, cond_false])
  rw [firstL_none (fun _ _ _ => rfl)] at lp
  unfold t_laws_eqSymbolS
  rw [lp, ← h]
  simp

theorem szSymbolS_ok (a : Sl Symbol) (hl0 : (a.getD []).length ≤ 9223372036854775807) : ∃ r, t_laws_szSymbolS a 1048576 = some r ∧ (r < 0 ∨ (a.getD []).length ≤ 1048576) := by
  have ws : wr (1048576 - (((a.getD []).length : Nat) : Int)) = 1048576 - (((a.getD []).length : Nat) : Int) := wr_id (by omega) (by omega)
  by_cases c1 : 1048576 - (((a.getD []).length : Nat) : Int) < 0
  · refine ⟨-1, ?_, .inl (by omega)⟩
    unfold t_laws_szSymbolS
    rw [ws]
    simp [c1]
  have hn : (a.getD []).length ≤ 1048576 := by omega
  have hl : (a.getD []).length ≤ 4294967296 := by omega
  have sz : ∀ (x : Symbol) (k : Int), ∃ r, t_laws_szSymbol x k = some r := fun x k => by
    unfold t_laws_szSymbol
    cases decide (wr (k - (x.label.size : Int)) < 0) with
    | true => exact ⟨_, rfl⟩
    | false => exact ⟨_, rfl⟩
  obtain ⟨q, e, _⟩ := loopT_ex (step := s0_laws_szSymbolS a) (fun k t => t.2 = (k : Int)) (a.getD []).length (fun _ => True)
    (fun k ⟨w, i⟩ hk h2 => by
      simp only at h2
      subst h2
      have c : (k : Int) < (((a.getD []).length : Nat) : Int) := by omega
      obtain ⟨x, hx⟩ : ∃ x, (a.getD [])[k]? = some x := ⟨_, List.getElem?_eq_getElem hk⟩
      obtain ⟨r, hr⟩ := sz x w
      unfold s0_laws_szSymbolS
      simp only [c, decide_true, cond_true, getI_nat hx, obind_sm, hr, wr_succ hk hl]
      cases decide (r < 0) with
      | true => exact .inr ⟨_, rfl, trivial⟩
      | false => exact .inl ⟨_, rfl, rfl⟩)
    (fun ⟨w, i⟩ h2 => by
      simp only at h2
      subst h2
      refine ⟨.inl w, ?_, trivial⟩
      unfold s0_laws_szSymbolS
      simp only [Int.lt_irrefl, decide_false, cond_false])
    (s := (1048576 - (((a.getD []).length : Nat) : Int), 0)) rfl
  have d : decide (1048576 - (((a.getD []).length : Nat) : Int) < 0) = false := decide_eq_false c1
  cases q with
  | inl q =>
    refine ⟨q, ?_, .inr hn⟩
    unfold t_laws_szSymbolS
    rw [ws, d, cond_false, e]
    rfl
  | inr q =>
    refine ⟨q, ?_, .inr hn⟩
    unfold t_laws_szSymbolS
    rw [ws, d, cond_false, e]
    rfl

def fSy (_ : Nat) (b : Symbol) : Option Bool := bif !okSym b then some false else none

/-- The symbols are valid. -/
def okSys (l : List Symbol) : Bool := match firstL fSy l 0 with
  | none => decide (l.length ≤ 8)
  | some r => r

theorem l20Ok_ok (s : Sl Symbol) (hl : (s.getD []).length ≤ 4294967296) : t_spec_l20Ok s = some (okSys (s.getD [])) := by
  have lp := loopT_first (step := s0_spec_l20Ok s) (s.getD []) fSy (.inl ()) .inr
    (fun k x hx => by
      have hk := get_lt hx
      have c : (k : Int) < (((s.getD []).length : Nat) : Int) := by omega
      unfold s0_spec_l20Ok fSy okSym
      simp only [c, decide_true, cond_true, getI_nat hx, obind_sm, wr_succ hk hl]
      cases isLabel x.label <;> cases validBox x.box <;> rfl)
    (by
      unfold s0_spec_l20Ok
      simp only [Int.lt_irrefl, decide_false, cond_false])
  have d : decide ((((s.getD []).length : Nat) : Int) ≤ 8) = decide ((s.getD []).length ≤ 8) := decide_eq_decide.2 (by omega)
  unfold t_spec_l20Ok okSys
  rw [lp]
  cases firstL fSy (s.getD []) 0 with
  | none => simp only [obind_sm, d]
  | some r => rfl

theorem fSy_some {l : List Symbol} {r : Bool} {k : Nat} (h : firstL fSy l k = some r) : r = false := by
  obtain ⟨i, a, hf⟩ := firstL_so h
  unfold fSy at hf
  cases h2 : okSym a <;> rw [h2] at hf <;> cases hf
  rfl

theorem validSys_ok (s : Sl Symbol) (hl : (s.getD []).length ≤ 4294967296) : t_impl_ValidSymbols s = some (okSys (s.getD [])) := by
  have lp := loopT_first (step := s0_slices_IndexFunc_impl_Symbol_impl_Symbol (fun a => some ((fun b : Symbol => !okSym b) a)) s) (s.getD []) (fun k a => bif !okSym a then some (k : Int) else none) (.inl ()) .inr
    (fun k a ha => by
      have hk := get_lt ha
      have c : (k : Int) < (((s.getD []).length : Nat) : Int) := by omega
      unfold s0_slices_IndexFunc_impl_Symbol_impl_Symbol
      simp only [c, decide_true, cond_true, getI_nat ha, obind_sm, wr_succ hk hl]
      cases okSym a <;> rfl)
    (by
      unfold s0_slices_IndexFunc_impl_Symbol_impl_Symbol
      simp only [Int.lt_irrefl, decide_false, cond_false])
  have key : ∀ (l : List Symbol) (k : Nat), (firstL (fun (k : Nat) a => bif !okSym a then some (k : Int) else none) l k = none ∧ firstL fSy l k = none) ∨ ∃ r, firstL (fun (k : Nat) a => bif !okSym a then some (k : Int) else none) l k = some r ∧ 0 ≤ r ∧ firstL fSy l k = some false := by
    intro l
    induction l with
    | nil => intro k; exact .inl ⟨rfl, rfl⟩
    | cons a l ih =>
      intro k
      unfold firstL fSy
      cases e : okSym a with
      | true =>
        simp only [Bool.not_true, cond_false]
        exact ih (k + 1)
      | false => exact .inr ⟨(k : Int), rfl, by omega, rfl⟩
  have cf : t_slices_ContainsFunc_impl_Symbol_impl_Symbol (fun a => some ((fun s : Symbol => !okSym s) a)) s = some (firstL fSy (s.getD []) 0).isSome := by
    unfold t_slices_ContainsFunc_impl_Symbol_impl_Symbol t_slices_IndexFunc_impl_Symbol_impl_Symbol
    rw [lp]
    rcases key (s.getD []) 0 with ⟨h1, h2⟩ | ⟨r, h1, h2, h3⟩
    · rw [h1, h2]
      simp
    · rw [h1, h3]
      simp [h2]
  have d : decide ((((s.getD []).length : Nat) : Int) ≤ 8) = decide ((s.getD []).length ≤ 8) := decide_eq_decide.2 (by omega)
  unfold t_impl_ValidSymbols okSys
  rw [cf, d]
  cases h : firstL fSy (s.getD []) 0 with
  | none => cases decide ((s.getD []).length ≤ 8) <;> rfl
  | some r =>
    have := fSy_some h
    subst this
    cases decide ((s.getD []).length ≤ 8) <;> rfl

theorem okSys_len {l : List Symbol} (h : okSys l = true) : l.length ≤ 8 := by
  unfold okSys at h
  cases e : firstL fSy l 0 with
  | some r =>
    rw [e] at h
    simp only at h
    rw [fSy_some e] at h
    cases h
  | none =>
    rw [e] at h
    exact of_decide_eq_true h

def relRow (l : List Symbol) (a : Symbol) : List Int := l.map fun b => relation a.box b.box

def relTab (l : List Symbol) : List (List Int) := l.map (relRow l)

theorem implTable_ok (l : List Symbol) (hl : l.length ≤ 8) : ∃ q, loopT (s0_impl_RelationTable (some l)) ((none : Sl (Sl Int)), 0) = some q ∧ rowsL q = relTab l := by
  have inner : ∀ a, ∃ q, loopT (s1_impl_RelationTable (some l) a) ((none : Sl Int), 0) = some q ∧ q.getD [] = relRow l a := fun a => by
    have h := buildLoopB (relRow l a) (n := l.length) (by simp [relRow]) (by omega) 0 none rfl (s1_impl_RelationTable (some l) a) (fun w k x hx => by
      have hk : k < l.length := by have := get_lt hx; simpa [relRow] using this
      obtain ⟨b, hb⟩ : ∃ b, l[k]? = some b := ⟨_, List.getElem?_eq_getElem hk⟩
      have hx' : relation a.box b.box = x := by
        unfold relRow at hx
        rw [List.getElem?_map, hb] at hx
        exact Option.some.inj hx
      have c : ((k + 0 : Nat) : Int) < ((l.length : Nat) : Int) := by omega
      unfold s1_impl_RelationTable
      simp only [Option.getD_some, c, decide_true, cond_true, getI_nat (show l[k + 0]? = some b from hb), obind_sm, hx']) (by omega) (fun w => by
      unfold s1_impl_RelationTable
      simp only [Option.getD_some, Nat.add_zero, Int.lt_irrefl, decide_false, cond_false])
    simpa using h
  obtain ⟨q, e2, hq⟩ := loopT_ex (step := s0_impl_RelationTable (some l)) (fun k t => rowsL t.1 = (relTab l).take k ∧ t.2 = (k : Int)) l.length (fun q => rowsL q = relTab l)
    (fun k ⟨w, i⟩ hk ⟨h1, h2⟩ => by
      simp only at h1 h2
      subst h2
      have c : (k : Int) < ((l.length : Nat) : Int) := by omega
      obtain ⟨a, ha⟩ : ∃ a, l[k]? = some a := ⟨_, List.getElem?_eq_getElem hk⟩
      obtain ⟨r, r1, r2⟩ := inner a
      have ap : appO w [r] = some (appS w [r]) := by
        rw [appO_some]
        rw [← rowsL_len, h1, List.length_take]
        simp
        omega
      refine .inl ⟨(appS w [r], ((k + 1 : Nat) : Int)), ?_, ?_, rfl⟩
      · unfold s0_impl_RelationTable
        simp only [Option.getD_some, c, decide_true, cond_true, getI_nat ha, obind_sm, r1, ap, wr_succ hk (show l.length ≤ 4294967296 by omega)]
      · show rowsL (appS w [r]) = _
        have e : (relTab l)[k]? = some (relRow l a) := by
          unfold relTab
          rw [List.getElem?_map, ha]
          rfl
        rw [rowsL_app, h1, r2, List.take_add_one, e]
        rfl)
    (fun ⟨w, i⟩ ⟨h1, h2⟩ => by
      simp only at h1 h2
      subst h2
      refine ⟨w, ?_, ?_⟩
      · unfold s0_impl_RelationTable
        simp only [Option.getD_some, Int.lt_irrefl, decide_false, cond_false]
      · rw [h1, List.take_of_length_le (by simp [relTab])])
    (s := (none, 0)) ⟨by simp [rowsL], rfl⟩
  exact ⟨q, e2, hq⟩

theorem specTable_ok (l : List Symbol) (hl : l.length ≤ 8) : ∃ q, loopT (s0_spec_RelationTable (some l)) ((some [] : Sl (Sl Int)), 0) = some q ∧ rowsL q = relTab l := by
  have inner : ∀ (i : Nat) a, l[i]? = some a → ∃ q, loopT (s1_spec_RelationTable (some l) (i : Int)) ((some [] : Sl Int), 0) = some q ∧ q.getD [] = relRow l a := fun i a hi => by
    have h := buildLoopB (relRow l a) (n := l.length) (by simp [relRow]) (by omega) 0 (some []) rfl (s1_spec_RelationTable (some l) (i : Int)) (fun w k x hx => by
      have hk : k < l.length := by have := get_lt hx; simpa [relRow] using this
      obtain ⟨b, hb⟩ : ∃ b, l[k]? = some b := ⟨_, List.getElem?_eq_getElem hk⟩
      have hx' : relation a.box b.box = x := by
        unfold relRow at hx
        rw [List.getElem?_map, hb] at hx
        exact Option.some.inj hx
      have c : ((k + 0 : Nat) : Int) < ((l.length : Nat) : Int) := by omega
      unfold s1_spec_RelationTable
      simp only [Option.getD_some, c, decide_true, cond_true, getI_nat hi, getI_nat (show l[k + 0]? = some b from hb), obind_sm, hx']) (by omega) (fun w => by
      unfold s1_spec_RelationTable
      simp only [Option.getD_some, Nat.add_zero, Int.lt_irrefl, decide_false, cond_false])
    simpa using h
  obtain ⟨q, e2, hq⟩ := loopT_ex (step := s0_spec_RelationTable (some l)) (fun k t => rowsL t.1 = (relTab l).take k ∧ t.2 = (k : Int)) l.length (fun q => rowsL q = relTab l)
    (fun k ⟨w, i⟩ hk ⟨h1, h2⟩ => by
      simp only at h1 h2
      subst h2
      have c : (k : Int) < ((l.length : Nat) : Int) := by omega
      obtain ⟨a, ha⟩ : ∃ a, l[k]? = some a := ⟨_, List.getElem?_eq_getElem hk⟩
      obtain ⟨r, r1, r2⟩ := inner k a ha
      have ap : appO w [r] = some (appS w [r]) := by
        rw [appO_some]
        rw [← rowsL_len, h1, List.length_take]
        simp
        omega
      refine .inl ⟨(appS w [r], ((k + 1 : Nat) : Int)), ?_, ?_, rfl⟩
      · unfold s0_spec_RelationTable
        simp only [Option.getD_some, c, decide_true, cond_true, obind_sm, r1, ap, wr_succ hk (show l.length ≤ 4294967296 by omega)]
      · show rowsL (appS w [r]) = _
        have e : (relTab l)[k]? = some (relRow l a) := by
          unfold relTab
          rw [List.getElem?_map, ha]
          rfl
        rw [rowsL_app, h1, r2, List.take_add_one, e]
        rfl)
    (fun ⟨w, i⟩ ⟨h1, h2⟩ => by
      simp only at h1 h2
      subst h2
      refine ⟨w, ?_, ?_⟩
      · unfold s0_spec_RelationTable
        simp only [Option.getD_some, Int.lt_irrefl, decide_false, cond_false]
      · rw [h1, List.take_of_length_le (by simp [relTab])])
    (s := (some [], 0)) ⟨by simp [rowsL], rfl⟩
  exact ⟨q, e2, hq⟩

theorem table_ok2 (l : List Symbol) (h : l.length ≤ 1048576) : ∃ g w n, t_impl_RelationTable (some l) = some (g, n) ∧ t_spec_RelationTable (some l) = some (w, n) ∧ rowsL g = rowsL w ∧ (rowsL g).length ≤ 1048576 ∧ ((rowsL g).map List.length).sum ≤ 1048576 := by
  have p1 := validSys_ok (some l) (by simp only [Option.getD_some]; omega)
  have p2 := l20Ok_ok (some l) (by simp only [Option.getD_some]; omega)
  unfold t_impl_RelationTable t_spec_RelationTable
  rw [p1, p2]
  simp only [Option.getD_some, obind_sm]
  cases h1 : okSys l with
  | false => exact ⟨_, _, _, rfl, rfl, rfl, by simp [rowsL], by simp [rowsL]⟩
  | true =>
    have hl := okSys_len h1
    obtain ⟨q, e1, q1⟩ := implTable_ok l hl
    obtain ⟨r, e2, q2⟩ := specTable_ok l hl
    refine ⟨q, r, 0, ?_, ?_, by rw [q1, q2], by rw [q1]; simp [relTab]; omega, ?_⟩
    · simp only [Bool.not_true, cond_false, obind_sm, e1]
    · simp only [Bool.not_true, cond_false, obind_sm, e2]
    · rw [q1]
      have e : (relTab l).map List.length = List.replicate l.length l.length := by
        unfold relTab
        rw [List.map_map, List.eq_replicate_iff]
        refine ⟨by simp, fun b hb => ?_⟩
        obtain ⟨a, _, rfl⟩ := List.mem_map.1 hb
        simp [relRow]
      rw [e, List.sum_replicate_nat]
      have : l.length * l.length ≤ 8 * 8 := Nat.mul_le_mul hl hl
      omega

theorem true_FnExactRelationTable (a : Sl Symbol) (ha : (a.getD []).length ≤ maxLen) : t_laws_FnExactRelationTable a = some true := by
  rw [maxLen_eq] at ha
  obtain ⟨r, sz, hr⟩ := szSymbolS_ok a (by omega)
  unfold t_laws_FnExactRelationTable
  rw [sz, obind_sm]
  by_cases c0 : r < 0
  · rw [decide_eq_true c0, cond_true]
  rw [decide_eq_false c0, cond_false]
  have hl : (a.getD []).length ≤ 1048576 := hr.resolve_left c0
  obtain ⟨L, hL⟩ : ∃ L, a.getD [] = L := ⟨_, rfl⟩
  have tb := toSymbolS_ok a (by omega)
  rw [hL] at tb hl
  obtain ⟨g, w, n, G1, G2, hgw, hgl, hgt⟩ := table_ok2 L hl
  have E1 := eqSS_ok hgw (by omega) (rows_small hgt)
  have E2 := eqSy_ok (a := some L) (b := some L) rfl (by simp only [Option.getD_some]; omega)
  have M1 : t_laws_markSymbolS (some L) 1 = some (1 + 5 * ((L.length : Nat) : Int), some (mkSy 1 L.length)) := by
    unfold t_laws_markSymbolS
    have d1 : decide ((0 : Int) ≤ 1) = true := by decide
    have d2 : decide (1 + 5 * ((((some L : Sl Symbol).getD []).length : Nat) : Int) ≤ 100000000) = true := decide_eq_true (by simp only [Option.getD_some]; omega)
    rw [d1, d2]
    rfl
  obtain ⟨v, r', M3, H, r0⟩ := marksSS g (by rw [← rowsL_len]; omega) (by rw [totL_rows]; omega)
  have z1 : decide (1 + 5 * ((L.length : Nat) : Int) < 0) = false := decide_eq_false (by omega)
  have z2 : decide (r' < 0) = false := decide_eq_false (by omega)
  simp only [tb, obind_sm, G1, G2, E1, E2, decide_true, Bool.not_true, cond_false, M1, z1, M3, H, z2]

theorem ok_laws_FnExactRelationTable : PureOK Try.prog n_laws_FnExactRelationTable (G1 (fun a : Sl Symbol => Wt.big a) fun _ => bv true) := lawC1 tt_laws_FnExactRelationTable fun a h => true_FnExactRelationTable a (big_len h)

theorem law_FnExactRelationTable (a : Sl Symbol) (ha : Row.fine a) : G1 (fun a : Sl Symbol => Wt.big a) (fun _ => bv true) [enc a] = some (bv true) := G1_enc _ _ a (Wt.fb a ha)

theorem isC_9 {cs : List AV} (h : IsC Try.prog 9 cs) : ∃ x : ByteArray, cs = Row.cells x ∧ Row.fine x := by
  obtain ⟨n, rfl, hn⟩ := IsC.strE Try.underlying9 h
  exact ⟨n, rfl, hn⟩
theorem isC_2 {cs : List AV} (h : IsC Try.prog 2 cs) : ∃ x : Int, cs = Row.cells x ∧ Row.fine x := by
  obtain ⟨n, rfl, hn⟩ := IsC.intE Try.underlying2 h
  exact ⟨n, rfl, fine_int hn⟩
theorem isC_74 {cs : List AV} (h : IsC Try.prog 74 cs) : ∃ x : Box, cs = Row.cells x ∧ Row.fine x := by
  replace h := IsC.structE Try.underlying74 h
  obtain ⟨c0, r0, rfl, q0, k0⟩ := IsFs.consE h
  obtain ⟨c1, r1, rfl, q1, k1⟩ := IsFs.consE k0
  obtain ⟨c2, r2, rfl, q2, k2⟩ := IsFs.consE k1
  obtain ⟨c3, r3, rfl, q3, k3⟩ := IsFs.consE k2
  cases IsFs.nilE k3
  obtain ⟨v0, rfl, w0⟩ := isC_2 q0
  obtain ⟨v1, rfl, w1⟩ := isC_2 q1
  obtain ⟨v2, rfl, w2⟩ := isC_2 q2
  obtain ⟨v3, rfl, w3⟩ := isC_2 q3
  exact ⟨⟨v0, v1, v2, v3⟩, rfl, w0, w1, w2, w3⟩
theorem isC_78 {cs : List AV} (h : IsC Try.prog 78 cs) : ∃ x : Symbol, cs = Row.cells x ∧ Row.fine x := by
  replace h := IsC.structE Try.underlying78 h
  obtain ⟨c0, r0, rfl, q0, k0⟩ := IsFs.consE h
  obtain ⟨c1, r1, rfl, q1, k1⟩ := IsFs.consE k0
  cases IsFs.nilE k1
  obtain ⟨v0, rfl, w0⟩ := isC_9 q0
  obtain ⟨v1, rfl, w1⟩ := isC_74 q1
  exact ⟨⟨v0, v1⟩, rfl, w0, w1⟩
theorem isC_38 {cs : List AV} (h : IsC Try.prog 38 cs) : ∃ x : (Sl Symbol), cs = Row.cells x ∧ Row.fine x := by
  rcases IsC.sliceE Try.underlying38 h with rfl | ⟨rows, rfl, h1, h2⟩
  · exact ⟨none, rfl, Sl.fineNil⟩
  · exact Sl.isC (by kernel_rfl) h1 fun row hr => isC_78 (h2 row hr)
theorem own : ownKnob Try.prog.godebug = none := by kernel_rfl
theorem laidOut : laidOutB Try.prog = true := by kernel_rfl

set_option maxRecDepth 100000 in
theorem holds : Rows.FnExactRelationTableSaid :=
  OpenClaim.holds_of_wide 4 Try.f4 rfl rfl rfl rfl rfl rfl rfl ⟨rfl, rfl, rfl, rfl, rfl⟩ rfl rfl rfl rfl rfl (by kernel_rfl) Try.func4 (by kernel_rfl)
    (of_decide_eq_true (by kernel_rfl)) (by unfold Func.isWrapper; rw [if_neg (by decide +kernel)]; exact ⟨rfl, rfl⟩)
    (fun os started H enc _ => law_lifted (C := Try.checked) (s := Rows.fnExactRelationTableSpec) own started (by kernel_rfl) Try.func4
      (ChangeSpec.witness6 (enc := enc) (C := Try.checked) false ⟨#[], #[.slice none 0 0], []⟩ 8 (by kernel_rfl) (by kernel_rfl) (by kernel_rfl) (by kernel_rfl))
      laidOut rfl (tb := 4) rfl Try.underlying4 (ts := [38, 78, 9, 74, 2]) (by kernel_rfl)
      (fun ds h => by match ds, h with | [d0], _ => rfl)
      hb_laws_FnExactRelationTable ok_laws_FnExactRelationTable (by
    intro l h
    obtain ⟨a0, l0, rfl, g0, k0⟩ := h
    cases k0
    obtain ⟨b0, e0, w0⟩ := isC_38 (isV_one (by kernel_rfl) g0)
    obtain rfl := one_enc e0
    exact law_FnExactRelationTable b0 w0))
#print axioms holds
end Go.Proofs.Ytkjdabdjkmbdjaa
