/-
  The law FnExactReadSymbols holds, for all arguments: it returns true, and its arguments read behind the call as before. No condition.
-/
import Derived.Test.YtbamachgomdjkaaDoorFnExactReadSymbolsPartA
import Derived.Test.YtbamachgomdjkaaDoorRows
import Derived.Test.YtbamachgomdjkaaDoorCards
import Derived.Test.YtbamachgomdjkaaDoorTie
import Derived.SevenTiedAt
import Derived.Lay
namespace Go.Proofs.YtbamachgomdjkaaDoor
open Go Go.Eng Go.Eng.Cod
set_option maxRecDepth 100000
set_option linter.unusedVariables false
set_option linter.unusedSimpArgs false

theorem bl_extract (s : ByteArray) (f i : Nat) : bl (s.extract f i) = ((bl s).drop f).take (i - f) := by
  unfold bl
  rw [ByteArray.data_extract, Array.toList_extract, List.extract_eq_take_drop]
theorem extract_strL (s : ByteArray) (f i : Nat) : s.extract f i = strL (((bl s).drop f).take (i - f)) := by
  rw [← bl_extract, strL_bl]
theorem subB_nat {s : ByteArray} {f i : Nat} (h1 : f ≤ i) (h2 : i ≤ s.size) : subB s (some (f : Int)) (some (i : Int)) = some (strL (((bl s).drop f).take (i - f))) := by
  unfold subB
  have e1 : bndI (some (i : Int)) s.size s.size = some i := idx_lt (by omega)
  have e2 : bndI (some (f : Int)) 0 i = some f := idx_lt (by omega)
  rw [e1, obind_sm, e2, obind_sm, extract_strL]
theorem subB_from {s : ByteArray} {f : Nat} (h : f ≤ s.size) : subB s (some (f : Int)) none = some (strL ((bl s).drop f)) := by
  unfold subB
  have e2 : bndI (some (f : Int)) 0 s.size = some f := idx_lt (by omega)
  show obind (some s.size) _ = _
  rw [obind_sm, e2, obind_sm, extract_strL, List.take_of_length_le (by rw [List.length_drop, bl_length]; omega)]
theorem l01Split_ok {s : ByteArray} {c : UInt8} (hs : s.size ≤ 4294960000) : t_spec_l01Split s c = some (some ((splitA c [] (bl s)).map strL)) := by
  have hl := bl_length s
  obtain ⟨⟨w6, w9⟩, h1, acc, f, h2, h3, h4, h5⟩ := loopT_ex (step := s0_spec_l01Split s c)
    (fun i (st : Sl ByteArray × Int × Int) => ∃ acc f, st = (some acc, ((f : Nat) : Int), (i : Int)) ∧ f ≤ i ∧ acc.length ≤ i ∧ acc ++ (splitA c (((bl s).drop f).take (i - f)) ((bl s).drop i)).map strL = (splitA c [] (bl s)).map strL) s.size
    (fun r => ∃ acc f, r = (some acc, ((f : Nat) : Int)) ∧ f ≤ s.size ∧ acc.length ≤ s.size ∧ acc ++ [strL ((bl s).drop f)] = (splitA c [] (bl s)).map strL)
    (fun i st hi hst => by
      obtain ⟨acc, f, rfl, h1, h2, h3⟩ := hst
      left
      obtain ⟨b, hb⟩ : ∃ b, (bl s)[i]? = some b := ⟨_, List.getElem?_eq_getElem (by omega)⟩
      have hd : (bl s).drop i = b :: (bl s).drop (i + 1) := by
        have hlt : i < (bl s).length := by omega
        rw [List.drop_eq_getElem_cons hlt]
        congr 1
        exact Option.some.inj ((List.getElem?_eq_getElem hlt).symm.trans hb)
      have ci : (i : Int) < (s.size : Int) := by omega
      rw [hd, splitA] at h3
      by_cases e : b = c
      · rw [if_pos e] at h3
        have ap := appO_some (s := some acc) (l := [strL (((bl s).drop f).take (i - f))]) (by show acc.length + 1 ≤ _; omega)
        have ee : appS (some acc) [strL (((bl s).drop f).take (i - f))] = some (acc ++ [strL (((bl s).drop f).take (i - f))]) := rfl
        refine ⟨(some (acc ++ [strL (((bl s).drop f).take (i - f))]), ((i + 1 : Nat) : Int), ((i + 1 : Nat) : Int)), ?_, _, i + 1, rfl, Nat.le_refl _, by simp; omega, ?_⟩
        · unfold s0_spec_l01Split
          dsimp only
          rw [decide_eq_true ci, cond_true, getB_bl hb, obind_sm, decide_eq_true e, cond_true, subB_nat h1 (by omega), obind_sm, ap, obind_sm, ee, wr_succ hi (by omega)]
        · rw [Nat.sub_self, List.take_zero, ← h3]
          simp
      · rw [if_neg e] at h3
        refine ⟨(some acc, (f : Int), ((i + 1 : Nat) : Int)), ?_, acc, f, rfl, by omega, by omega, ?_⟩
        · unfold s0_spec_l01Split
          dsimp only
          rw [decide_eq_true ci, cond_true, getB_bl hb, obind_sm, decide_eq_false e, cond_false, wr_succ hi (by omega)]
        · rw [← h3]
          congr 3
          have e2 : i + 1 - f = (i - f) + 1 := by omega
          rw [e2, List.take_add_one, List.getElem?_drop]
          have e3 : f + (i - f) = i := by omega
          rw [e3, hb]
          rfl)
    (fun st hst => by
      obtain ⟨acc, f, rfl, h1, h2, h3⟩ := hst
      refine ⟨(some acc, (f : Int)), ?_, acc, f, rfl, h1, h2, ?_⟩
      · unfold s0_spec_l01Split
        dsimp only
        rw [decide_eq_false (by omega), cond_false]
      · rw [List.drop_eq_nil_of_le (by omega : (bl s).length ≤ s.size), splitA] at h3
        rw [List.take_of_length_le (by rw [List.length_drop]; omega)] at h3
        exact h3)
    (s := (some ([] : List ByteArray), 0, 0)) ⟨[], 0, rfl, Nat.le_refl _, Nat.le_refl _, by simp⟩
  cases h2
  have ap := appO_some (s := some acc) (l := [strL ((bl s).drop f)]) (by show acc.length + 1 ≤ _; omega)
  unfold t_spec_l01Split
  rw [h1, obind_sm]
  simp only []
  rw [subB_from h3, obind_sm, ap, obind_sm]
  show some (some (acc ++ [strL ((bl s).drop f)])) = _
  rw [h5]

/-! ### The library's parts -/
theorem indexByte_cs : ∀ (l : List UInt8) (c : UInt8), (Lib.indexByte l c = -1 ∧ c ∉ l) ∨ ∃ a r, l = a ++ c :: r ∧ c ∉ a ∧ Lib.indexByte l c = ((a.length : Nat) : Int)
  | [], c => .inl ⟨rfl, by simp⟩
  | b :: l, c => by
    unfold Lib.indexByte
    by_cases e : b = c
    · subst e
      exact .inr ⟨[], l, rfl, by simp, by simp⟩
    · have hb : (b == c) = false := beq_eq_false_iff_ne.2 e
      rw [hb]
      rcases indexByte_cs l c with ⟨h1, h2⟩ | ⟨a, r, h1, h2, h3⟩
      · refine .inl ⟨by simp [h1], ?_⟩
        intro h
        rcases List.mem_cons.1 h with h | h
        · exact e h.symm
        · exact h2 h
      · refine .inr ⟨b :: a, r, by rw [h1]; rfl, ?_, ?_⟩
        · intro h
          rcases List.mem_cons.1 h with h | h
          · exact e h.symm
          · exact h2 h
        · rw [h3]
          have : (((a.length : Nat) : Int) == -1) = false := beq_eq_false_iff_ne.2 (by omega)
          rw [this]
          simp
theorem indexB_one (s : ByteArray) (c : UInt8) : Lib.indexB s ⟨#[c]⟩ = Lib.indexByte (bl s) c := Lib.index_one _ _
theorem splitB_list (c : UInt8) : ∀ (k : Nat) (s : ByteArray), Lib.countB s ⟨#[c]⟩ = k → Lib.splitB ⟨#[c]⟩ 0 k s = (splitA c [] (bl s)).map strL
  | k, s, hk => by
    rcases indexByte_cs (bl s) c with ⟨h1, h2⟩ | ⟨a, r, h1, h2, h3⟩
    · rw [Lib.splitB_miss _ _ _ _ (by rw [indexB_one]; exact h1), splitA_miss h2]
      show [s] = [strL ([] ++ bl s)]
      rw [List.nil_append, strL_bl]
    · have hi : Lib.indexB s ⟨#[c]⟩ = ((a.length : Nat) : Int) := by rw [indexB_one]; exact h3
      have hc := Lib.countB_hit s ⟨#[c]⟩ a.length (Nat.le_refl 1) hi
      obtain ⟨k', rfl⟩ : ∃ k', k = k' + 1 := ⟨k - 1, by omega⟩
      have hr : bl (s.extract (a.length + 1) s.size) = r := by
        rw [bl_extract, h1]
        have hl := bl_length s
        rw [h1] at hl
        rw [List.length_append, List.length_cons] at hl
        have e1 : (a ++ c :: r).drop (a.length + 1) = r := by
          rw [List.drop_append, List.drop_eq_nil_of_le (by omega)]
          have : a.length + 1 - a.length = 1 := by omega
          rw [this]
          rfl
        rw [e1, List.take_of_length_le (by omega)]
      have ha : s.extract 0 (a.length + 0) = strL a := by
        rw [extract_strL, h1]
        simp
      rw [Lib.splitB_hit _ _ _ _ _ hi, ha, h1, splitA_hit h2, List.nil_append, List.map_cons]
      have ih := splitB_list c k' (s.extract (a.length + 1) s.size) (by
        have : Lib.countB s ⟨#[c]⟩ = 1 + Lib.countB (s.extract (a.length + 1) s.size) ⟨#[c]⟩ := hc
        omega)
      rw [hr] at ih
      exact congrArg _ ih

/-! ### Decimal numbers, plain -/
def valD (acc : Nat) (l : List UInt8) : Nat := l.foldl (fun a b => 10 * a + (b.toNat - 48)) acc
def allDig (l : List UInt8) : Bool := l.all isDig
theorem isDig_v {b : UInt8} (h : isDig b = true) : 48 ≤ b.toNat ∧ b.toNat ≤ 57 := by
  unfold isDig at h
  simp only [Bool.and_eq_true, decide_eq_true_eq] at h
  omega
theorem valD_snoc (acc : Nat) (l : List UInt8) (b : UInt8) : valD acc (l ++ [b]) = 10 * valD acc l + (b.toNat - 48) := by simp [valD]
theorem valD_lt : ∀ (l : List UInt8) (acc k : Nat), allDig l = true → acc < 10 ^ k → valD acc l < 10 ^ (k + l.length)
  | [], acc, k, _, h => by simpa [valD] using h
  | b :: l, acc, k, hd, h => by
    unfold allDig at hd
    rw [List.all_cons, Bool.and_eq_true] at hd
    have hb := isDig_v hd.1
    have h2 : 10 * acc + (b.toNat - 48) < 10 ^ (k + 1) := by
      rw [Nat.pow_succ]
      omega
    have := valD_lt l (10 * acc + (b.toNat - 48)) (k + 1) hd.2 h2
    have e : k + (b :: l).length = k + 1 + l.length := by simp; omega
    rw [e]
    exact this
theorem valD_ge : ∀ (l : List UInt8) (acc : Nat), acc ≤ valD acc l
  | [], acc => Nat.le_refl _
  | b :: l, acc => by
    have := valD_ge l (10 * acc + (b.toNat - 48))
    show acc ≤ valD (10 * acc + (b.toNat - 48)) l
    omega
theorem byte_val {b : UInt8} (h : isDig b = true) : ((byteI ((b.toNat : Int) - ((48 : UInt8).toNat : Int))).toNat : Int) = ((b.toNat - 48 : Nat) : Int) := by
  have hb := isDig_v h
  have e : (b.toNat : Int) - ((48 : UInt8).toNat : Int) = ((b.toNat - 48 : Nat) : Int) := by
    have : ((48 : UInt8).toNat : Int) = 48 := rfl
    rw [this]
    omega
  rw [e, byteI_small (by omega), UInt8.toNat_ofNat', Nat.mod_eq_of_lt (by omega)]
theorem numLoop (t : ByteArray) (ht : t.size ≤ 18) : ∃ r, loopT (s0_spec_l01Number t) (0, 0) = some r ∧ ((allDig (bl t) = true ∧ r = .inl ((valD 0 (bl t) : Nat) : Int)) ∨ (allDig (bl t) = false ∧ r = .inr (0, false))) := by
  have hl := bl_length t
  exact loopT_ex (step := s0_spec_l01Number t) (fun i (st : Int × Int) => st = (((valD 0 ((bl t).take i) : Nat) : Int), (i : Int)) ∧ allDig ((bl t).take i) = true) t.size
    (fun r => (allDig (bl t) = true ∧ r = .inl ((valD 0 (bl t) : Nat) : Int)) ∨ (allDig (bl t) = false ∧ r = .inr (0, false)))
    (fun i st hi hst => by
      obtain ⟨rfl, hd⟩ := hst
      obtain ⟨b, hb⟩ : ∃ b, (bl t)[i]? = some b := ⟨_, List.getElem?_eq_getElem (by omega)⟩
      have ci : (i : Int) < (t.size : Int) := by omega
      cases hx : isDig b with
      | false =>
        right
        refine ⟨.inr (0, false), ?_, .inr ⟨?_, rfl⟩⟩
        · unfold s0_spec_l01Number
          dsimp only
          rw [decide_eq_true ci, cond_true, getB_bl hb, obind_sm, obind_sm, hx, Bool.not_false, cond_true]
        · unfold allDig
          cases h : (bl t).all isDig with
          | false => rfl
          | true =>
            have := List.all_eq_true.1 h b (List.mem_of_getElem? hb)
            rw [hx] at this
            cases this
      | true =>
        left
        have tk : (bl t).take (i + 1) = (bl t).take i ++ [b] := by rw [List.take_add_one, hb]; rfl
        have hlt := valD_lt ((bl t).take i) 0 0 hd (by decide)
        have hle : ((bl t).take i).length ≤ 17 := by rw [List.length_take]; omega
        have hp : 10 ^ (0 + ((bl t).take i).length) ≤ 10 ^ 17 := Nat.pow_le_pow_right (by decide) (by omega)
        have hb2 := isDig_v hx
        refine ⟨(((valD 0 ((bl t).take (i + 1)) : Nat) : Int), ((i + 1 : Nat) : Int)), ?_, rfl, ?_⟩
        · unfold s0_spec_l01Number
          dsimp only
          rw [decide_eq_true ci, cond_true, getB_bl hb, obind_sm, obind_sm, hx, Bool.not_true, cond_false, obind_sm, byte_val hx, tk, valD_snoc, wr_succ hi (by omega)]
          have w1 : wr (10 * ((valD 0 ((bl t).take i) : Nat) : Int)) = 10 * ((valD 0 ((bl t).take i) : Nat) : Int) := wr_id (by omega) (by omega)
          rw [w1, wr_id (by omega) (by omega)]
          push_cast
          rfl
        · rw [tk]
          unfold allDig at hd ⊢
          rw [List.all_append, hd, List.all_cons, hx]
          rfl)
    (fun st hst => by
      obtain ⟨rfl, hd⟩ := hst
      rw [List.take_of_length_le (by omega)] at hd ⊢
      refine ⟨.inl ((valD 0 (bl t) : Nat) : Int), ?_, .inl ⟨hd, rfl⟩⟩
      unfold s0_spec_l01Number
      dsimp only
      rw [decide_eq_false (by omega), cond_false]) (s := (0, 0)) ⟨rfl, rfl⟩
theorem numLoop1 (t : ByteArray) : s1_spec_l01Number t = s0_spec_l01Number t := rfl
theorem valD_small {t : ByteArray} (ht : t.size ≤ 18) (hd : allDig (bl t) = true) : ((valD 0 (bl t) : Nat) : Int) < 1000000000000000000 := by
  have h := valD_lt (bl t) 0 0 hd (by decide)
  have hp : 10 ^ (0 + (bl t).length) ≤ 10 ^ 18 := Nat.pow_le_pow_right (by decide) (by rw [bl_length]; omega)
  omega
/-- The reference's number: total, and right. -/
theorem num_ok (s : ByteArray) (hs : s.size ≤ 4294960000) : ∃ n b, t_spec_l01Number s = some (n, b) ∧ (b = true → s = itS n) := by
  have hl := bl_length s
  unfold t_spec_l01Number
  have fin : ∀ (t : ByteArray) (neg : Bool), ∃ n b, (bif (bif decide ((t.size : Int) < 1) then true else decide (18 < (t.size : Int))) then some ((0 : Int), false) else
      obind (loopT (s0_spec_l01Number t) (0, 0)) fun qq39 => match qq39 with
      | (.inl q17) =>
          bif neg then
            obind (t_spec_l01Dec (wr (0 - q17))) fun c20 =>
            bif !decide (c20 = s) then
              some (0, false)
            else
              some (wr (0 - q17), true)
          else
            obind (t_spec_l01Dec q17) fun c22 =>
            bif !decide (c22 = s) then
              some (0, false)
            else
              some (q17, true)
      | (.inr (q26, q27)) =>
          some (q26, q27)) = some (n, b) ∧ (b = true → s = itS n) := by
    intro t neg
    by_cases c1 : (t.size : Int) < 1
    · rw [decide_eq_true c1]
      exact ⟨0, false, rfl, fun h => by cases h⟩
    by_cases c2 : 18 < (t.size : Int)
    · rw [decide_eq_true c2, decide_eq_false c1]
      exact ⟨0, false, rfl, fun h => by cases h⟩
    rw [decide_eq_false c1, decide_eq_false c2]
    simp only [cond_false]
    obtain ⟨r, h1, h2⟩ := numLoop t (by omega)
    rw [h1, obind_sm]
    rcases h2 with ⟨hd, rfl⟩ | ⟨hd, rfl⟩
    · have hv := valD_small (by omega) hd
      cases neg with
      | true =>
        have w : wr (0 - ((valD 0 (bl t) : Nat) : Int)) = -((valD 0 (bl t) : Nat) : Int) := by rw [wr_id (by omega) (by omega)]; omega
        simp only [cond_true, w]
        rw [(l01Dec_ok (n := -((valD 0 (bl t) : Nat) : Int)) (by omega) (by omega)).1, obind_sm]
        by_cases e : itS (-((valD 0 (bl t) : Nat) : Int)) = s
        · rw [decide_eq_true e]
          exact ⟨_, true, rfl, fun _ => e.symm⟩
        · rw [decide_eq_false e]
          exact ⟨0, false, rfl, fun h => by cases h⟩
      | false =>
        simp only [cond_false]
        rw [(l01Dec_ok (n := ((valD 0 (bl t) : Nat) : Int)) (by omega) (by omega)).1, obind_sm]
        by_cases e : itS ((valD 0 (bl t) : Nat) : Int) = s
        · rw [decide_eq_true e]
          exact ⟨_, true, rfl, fun _ => e.symm⟩
        · rw [decide_eq_false e]
          exact ⟨0, false, rfl, fun h => by cases h⟩
    · exact ⟨0, false, rfl, fun h => by cases h⟩
  by_cases c0 : s = (⟨#[]⟩ : ByteArray)
  · subst c0
    exact ⟨0, false, rfl, fun h => by cases h⟩
  have h0 : 0 < s.size := by
    rcases Nat.eq_zero_or_pos s.size with h | h
    · exfalso
      apply c0
      rw [← strL_bl s, List.eq_nil_of_length_eq_zero (by omega : (bl s).length = 0)]
      rfl
    · exact h
  obtain ⟨b0, hb0⟩ : ∃ b0, (bl s)[0]? = some b0 := ⟨_, List.getElem?_eq_getElem (by omega)⟩
  have gb : getB s 0 = some b0 := getB_bl (k := 0) hb0
  rw [decide_eq_false c0]
  simp only [Bool.not_false, cond_true, gb, obind_sm]
  by_cases cm : (b0.toNat : Int) = 45
  · rw [decide_eq_true cm]
    have sb := subB_from (s := s) (f := 1) (by omega)
    have sb' : subB s (some 1) none = some (strL ((bl s).drop 1)) := sb
    simp only [cond_true, sb', obind_sm]
    have lt : decide (((strL ((bl s).drop 1)).size : Int) < (s.size : Int)) = true := decide_eq_true (by rw [strL_size, List.length_drop]; omega)
    rw [lt]
    have := fin (strL ((bl s).drop 1)) true
    by_cases c1 : ((strL ((bl s).drop 1)).size : Int) < 1
    · rw [decide_eq_true c1]
      exact ⟨0, false, rfl, fun h => by cases h⟩
    · rw [decide_eq_false c1] at this ⊢
      simp only [cond_false, cond_true, obind_sm] at this ⊢
      exact this
  · rw [decide_eq_false cm]
    simp only [cond_false, numLoop1]
    have lt : decide ((s.size : Int) < (s.size : Int)) = false := decide_eq_false (by omega)
    rw [lt]
    have := fin s false
    by_cases c1 : (s.size : Int) < 1
    · omega
    · rw [decide_eq_false c1] at this ⊢
      simp only [cond_false, obind_sm] at this ⊢
      exact this

theorem decDig (m : Nat) : allDig (Lib.decDigits m) = true ∧ valD 0 (Lib.decDigits m) = m := by
  induction m using Nat.strongRecOn with
  | _ m ih =>
    rw [Lib.decDigits]
    have hb : ∀ k, k < 10 → isDig (UInt8.ofNat (48 + k)) = true ∧ (UInt8.ofNat (48 + k)).toNat - 48 = k := fun k hk => by
      have e : (UInt8.ofNat (48 + k)).toNat = 48 + k := by rw [UInt8.toNat_ofNat', Nat.mod_eq_of_lt (by omega)]
      refine ⟨?_, by omega⟩
      unfold isDig
      rw [e, Bool.and_eq_true, decide_eq_true_eq, decide_eq_true_eq]
      omega
    by_cases h : m < 10
    · rw [dif_pos h]
      obtain ⟨h1, h2⟩ := hb m h
      refine ⟨by unfold allDig; rw [List.all_cons, h1]; rfl, ?_⟩
      show 10 * 0 + ((UInt8.ofNat (48 + m)).toNat - 48) = m
      omega
    · rw [dif_neg h]
      obtain ⟨h1, h2⟩ := hb (m % 10) (Nat.mod_lt _ (by decide))
      obtain ⟨i1, i2⟩ := ih (m / 10) (by omega)
      refine ⟨?_, ?_⟩
      · unfold allDig at i1 ⊢
        rw [List.all_append, i1, List.all_cons, h1]
        rfl
      · rw [valD_snoc, i2, h2]
        omega
theorem itS_nat (m : Nat) : itS (m : Int) = strL (Lib.decDigits m) := by
  unfold itS
  rw [Lib.itoa_nonneg]
theorem decDigits_ne (m : Nat) : Lib.decDigits m ≠ [] := by
  rw [Lib.decDigits]
  split <;> simp
theorem decLen {m : Nat} (h : m ≤ 1000000) : (Lib.decDigits m).length ≤ 18 := by
  have h2 := (l01Dec_ok (n := (m : Int)) (by omega) (by omega)).2
  rcases Nat.lt_or_ge 18 (Lib.decDigits m).length with hx | hx
  · exfalso
    have hm : m ≠ 0 := fun e => by
      subst e
      rw [Lib.decDigits, dif_pos (by decide)] at hx
      simp at hx
    have dd : digs m = Lib.decDigits m := by unfold digs; rw [if_neg hm]
    have := digs_len 7 m (by omega)
    rw [dd] at this
    omega
  · exact hx
theorem num_itS {m : Nat} (h : m ≤ 1000000) : t_spec_l01Number (itS (m : Int)) = some ((m : Int), true) := by
  obtain ⟨d1, d2⟩ := decDig m
  have dl := decLen h
  rw [itS_nat]
  obtain ⟨b, r, hbr⟩ : ∃ b r, Lib.decDigits m = b :: r := by
    cases e : Lib.decDigits m with
    | nil => exact absurd e (decDigits_ne m)
    | cons b r => exact ⟨b, r, rfl⟩
  have hb : isDig b = true := by
    unfold allDig at d1
    rw [hbr, List.all_cons, Bool.and_eq_true] at d1
    exact d1.1
  have hv := isDig_v hb
  have hbl : bl (strL (Lib.decDigits m)) = Lib.decDigits m := bl_strL _
  have hsz : (strL (Lib.decDigits m)).size = (Lib.decDigits m).length := strL_size _
  have hpos : 1 ≤ (Lib.decDigits m).length := by rw [hbr]; simp
  have gb : getB (strL (Lib.decDigits m)) 0 = some b := getB_bl (k := 0) (by rw [hbl, hbr]; rfl)
  have ne : strL (Lib.decDigits m) ≠ (⟨#[]⟩ : ByteArray) := fun e => by
    rw [e] at hsz
    have : (⟨#[]⟩ : ByteArray).size = 0 := rfl
    omega
  obtain ⟨q, h1, h2⟩ := numLoop (strL (Lib.decDigits m)) (by omega)
  rw [hbl] at h2
  have hq : q = .inl (m : Int) := by
    rcases h2 with ⟨_, h2⟩ | ⟨h2, _⟩
    · rw [h2, d2]
    · rw [d1] at h2; cases h2
  subst hq
  have e1 : ¬ ((strL (Lib.decDigits m)).size : Int) < 1 := by omega
  have e2 : ¬ 18 < ((strL (Lib.decDigits m)).size : Int) := by omega
  have e3 : ¬ (b.toNat : Int) = 45 := by omega
  have e4 : ¬ ((strL (Lib.decDigits m)).size : Int) < ((strL (Lib.decDigits m)).size : Int) := by omega
  unfold t_spec_l01Number
  rw [decide_eq_false ne]
  simp only [Bool.not_false, cond_true, gb, obind_sm]
  rw [decide_eq_false e3]
  simp only [cond_false, numLoop1]
  rw [decide_eq_false e1, decide_eq_false e2, decide_eq_false e4]
  simp only [cond_false, obind_sm, h1]
  rw [(l01Dec_ok (n := (m : Int)) (by omega) (by omega)).1, obind_sm, itS_nat, decide_eq_true rfl]
  rfl
theorem parseM_dig (M : Nat) (hM : 1000000 ≤ M) : ∀ (l : List UInt8) (acc : Nat), allDig l = true → valD acc l ≤ 1000000 → Lib.parseUintM M acc l = .ok (valD acc l)
  | [], acc, _, _ => rfl
  | b :: l, acc, hd, hv => by
    unfold allDig at hd
    rw [List.all_cons, Bool.and_eq_true] at hd
    have hb := isDig_v hd.1
    have hv2 : valD (10 * acc + (b.toNat - 48)) l ≤ 1000000 := hv
    have hg := valD_ge l (10 * acc + (b.toNat - 48))
    have e : acc * 10 + (b.toNat - 48) = 10 * acc + (b.toNat - 48) := by omega
    rw [Lib.parseUintM, if_pos hb, if_neg (by omega), if_neg (by omega), e]
    exact parseM_dig M hM l _ hd.2 hv2
theorem readDec_itS {m : Nat} (h : m ≤ 1000000) : readDecB (itS (m : Int)) = ((m : Int), true) := by
  obtain ⟨d1, d2⟩ := decDig m
  have dl := decLen h
  obtain ⟨b, r, hbr⟩ : ∃ b r, Lib.decDigits m = b :: r := by
    cases e : Lib.decDigits m with
    | nil => exact absurd e (decDigits_ne m)
    | cons b r => exact ⟨b, r, rfl⟩
  have hb : isDig b = true := by
    unfold allDig at d1
    rw [hbr, List.all_cons, Bool.and_eq_true] at d1
    exact d1.1
  have hv := isDig_v hb
  have hl : (itS (m : Int)).data.toList = b :: r := by
    rw [itS_nat, ← hbr]
    rfl
  have hp : Lib.parseIntB 64 (b :: r) = .ok (m : Int) := by
    rw [Lib.parseIntB_plain 64 b r (by omega) (by omega)]
    have hu : Lib.parseUintB 64 (b :: r) = .ok m := by
      unfold Lib.parseUintB
      rw [if_neg (by simp), parseM_dig _ (by decide) _ _ (by rw [← hbr]; exact d1) (by rw [← hbr, d2]; exact h), ← hbr, d2]
    rw [hu]
    show (if 2 ^ 63 ≤ m then Lib.NumEnd.range else .ok (m : Int)) = _
    rw [if_neg (by omega)]
  have ht : Lib.trimPrefix (b :: r) [45] = b :: r := by
    unfold Lib.trimPrefix Lib.hasPrefix
    have : ([45].isPrefixOf (b :: r)) = false := by
      have : ((45 : UInt8) == b) = false := beq_eq_false_iff_ne.2 (fun e => by rw [← e] at hv; exact absurd hv.1 (by decide))
      simp [List.isPrefixOf, this]
    rw [this]
    rfl
  have hlen : (b :: r).length ≤ 18 := by rw [← hbr]; exact dl
  unfold readDecB
  rw [hl, hp, ht]
  dsimp only
  rw [decide_eq_true (show 1 ≤ (b :: r).length by simp), decide_eq_true hlen, decide_eq_true rfl]
  rfl

/-! ### Reading a model, plain -/
def linesT (ls : List (List UInt8)) : List UInt8 := ls.flatMap (· ++ [10])

theorem linesT_join : ∀ {ls : List (List UInt8)} (_ : ls ≠ []), linesT ls = joinA 10 ls ++ [10]
  | [a], _ => by simp [linesT, joinA]
  | a :: b :: t, _ => by
    have h := linesT_join (ls := b :: t) (by simp)
    have e : linesT (a :: b :: t) = a ++ [10] ++ linesT (b :: t) := by simp [linesT]
    rw [e, h, show joinA 10 (a :: b :: t) = a ++ 10 :: joinA 10 (b :: t) from rfl]
    simp only [List.append_assoc, List.cons_append, List.nil_append]

theorem split_lines : ∀ {ls : List (List UInt8)} (_ : ls ≠ []) (_ : ∀ l ∈ ls, (10 : UInt8) ∉ l), ∃ l', linesT ls = l' ++ [10] ∧ splitA 10 [] l' = ls
  | [a], _, h => ⟨a, by simp [linesT], by rw [splitA_miss (h a (by simp))]; rfl⟩
  | a :: b :: t, _, h => by
    obtain ⟨l', h1, h2⟩ := split_lines (ls := b :: t) (by simp) (fun l hl => h l (List.mem_cons_of_mem _ hl))
    refine ⟨a ++ 10 :: l', ?_, ?_⟩
    · have e : linesT (a :: b :: t) = a ++ [10] ++ linesT (b :: t) := by simp [linesT]
      rw [e, h1]
      simp
    · rw [splitA_hit (h a (by simp)), h2]
      rfl

theorem dig_mem {n : Nat} : ∀ x ∈ bl (itS (n : Int)), 48 ≤ x.toNat ∧ x.toNat ≤ 57 := by
  intro x hx
  rw [itS_nat, bl_strL] at hx
  have := (decDig n).1
  unfold allDig at this
  exact isDig_v (List.all_eq_true.1 this x hx)

theorem not_mem_of {l : List UInt8} {c : UInt8} (h : ∀ x ∈ l, c.toNat < x.toNat) : c ∉ l := fun hc => Nat.lt_irrefl _ (h c hc)

/-- The list so far, as it is appended to nil. -/
def slT {A : Type} (l : List A) : Sl A := match l with
  | [] => none
  | a :: t => some (a :: t)

theorem slT_getD {A : Type} (l : List A) : (slT l).getD [] = l := by cases l <;> rfl

theorem slT_app {A : Type} (l : List A) (a : A) : appS (slT l) [a] = slT (l ++ [a]) := by cases l <;> rfl

theorem slT_app0 {A : Type} {l : List A} (a : A) (h : l.length ≤ 4000000) : appO (slT l) [a] = some (slT (l ++ [a])) := by
  rw [appO_some (by rw [slT_getD]; simp; omega), slT_app]

theorem splitA_size (c : UInt8) : ∀ (l p : List UInt8), ∀ w ∈ splitA c p l, w.length ≤ p.length + l.length
  | [], p, w, h => by
    rw [splitA, List.mem_singleton] at h
    subst h
    simp
  | x :: l, p, w, h => by
    rw [splitA] at h
    split at h
    · rcases List.mem_cons.1 h with h | h
      · subst h
        simp
      · have := splitA_size c l [] w h
        simp only [List.length_nil, List.length_cons] at this ⊢
        omega
    · have := splitA_size c l _ w h
      simp only [List.length_append, List.length_cons, List.length_nil] at this ⊢
      omega

theorem splitO_one {s : ByteArray} {c : UInt8} (hs : s.size ≤ 4294960000) : splitO s ⟨#[c]⟩ = some (some ((splitA c [] (bl s)).map strL)) := by
  unfold splitO
  rw [decide_eq_true (show s.size ≤ 4294967000 by omega), show decide (1 ≤ (⟨#[c]⟩ : ByteArray).size) = true from rfl]
  show some (some (Lib.splitB ⟨#[c]⟩ 0 (Lib.countB s ⟨#[c]⟩) s)) = _
  rw [splitB_list c _ s rfl]

theorem subB_to {s : ByteArray} {i : Nat} (h : i ≤ s.size) : subB s none (some (i : Int)) = some (strL ((bl s).take i)) := by
  unfold subB
  have e1 : bndI (some (i : Int)) s.size s.size = some i := idx_lt (by omega)
  rw [e1, obind_sm]
  show some (s.extract 0 i) = _
  rw [extract_strL, List.drop_zero, Nat.sub_zero]

theorem hasSuf_ok {s : ByteArray} (hs : s.size ≤ 4294960000) (h1 : 1 ≤ s.size) : t_internal_stringslite_HasSuffix s (⟨#[10]⟩ : ByteArray) = some (decide ((bl s).drop (s.size - 1) = [10])) := by
  have z : ((⟨#[10]⟩ : ByteArray).size : Int) = 1 := rfl
  have w : wr ((s.size : Int) - 1) = ((s.size - 1 : Nat) : Int) := by rw [wr_id (by omega) (by omega)]; omega
  have e : decide (strL ((bl s).drop (s.size - 1)) = (⟨#[10]⟩ : ByteArray)) = decide ((bl s).drop (s.size - 1) = [10]) := by
    apply decide_eq_decide.2
    rw [nl10]
    constructor
    · intro h
      have := congrArg bl h
      rwa [bl_strL, bl_strL] at this
    · intro h
      rw [h]
  unfold t_internal_stringslite_HasSuffix
  rw [z, decide_eq_true (show (1 : Int) ≤ (s.size : Int) by omega), w, subB_from (by omega)]
  simp only [cond_true, obind_sm, e]

theorem linesOf_ok {s : ByteArray} (hs : s.size ≤ 4294960000) :
    (s = ⟨#[]⟩ ∧ t_impl_linesOf s = some (none, true)) ∨ (∃ l', bl s = l' ++ [10] ∧ t_impl_linesOf s = some (some ((splitA 10 [] l').map strL), true)) ∨ ((∀ l', bl s ≠ l' ++ [10]) ∧ s ≠ ⟨#[]⟩ ∧ t_impl_linesOf s = some (none, false)) := by
  have hl := bl_length s
  unfold t_impl_linesOf
  by_cases c0 : s = (⟨#[]⟩ : ByteArray)
  · exact .inl ⟨c0, by rw [decide_eq_true c0]; rfl⟩
  have h0 : 1 ≤ s.size := by
    rcases Nat.eq_zero_or_pos s.size with h | h
    · exfalso
      apply c0
      rw [← strL_bl s, List.eq_nil_of_length_eq_zero (by omega : (bl s).length = 0)]
      rfl
    · exact h
  have hS := hasSuf_ok hs h0
  right
  rw [decide_eq_false c0, cond_false]
  unfold t_strings_HasSuffix
  rw [hS, obind_sm, obind_sm]
  by_cases c1 : (bl s).drop (s.size - 1) = [10]
  · left
    have hb : bl s = (bl s).take (s.size - 1) ++ [10] := by rw [← c1, List.take_append_drop]
    refine ⟨(bl s).take (s.size - 1), hb, ?_⟩
    have w : wr ((s.size : Int) - ((⟨#[10]⟩ : ByteArray).size : Int)) = ((s.size - 1 : Nat) : Int) := by
      have z : ((⟨#[10]⟩ : ByteArray).size : Int) = 1 := rfl
      rw [z, wr_id (by omega) (by omega)]
      omega
    rw [decide_eq_true c1, Bool.not_true, cond_false]
    unfold t_strings_TrimSuffix t_internal_stringslite_TrimSuffix
    rw [hS, obind_sm, decide_eq_true c1, cond_true, w, subB_to (by omega), obind_sm, obind_sm, obind_sm, splitO_one (by rw [strL_size, List.length_take]; omega), obind_sm, bl_strL]
  · right
    refine ⟨fun l' h => c1 ?_, c0, ?_⟩
    · have hl2 : l'.length = s.size - 1 := by
        have := congrArg List.length h
        rw [List.length_append] at this
        simp only [List.length_cons, List.length_nil] at this
        omega
      rw [h, ← hl2, List.drop_left]
    · rw [decide_eq_false c1]
      rfl

theorem getI_map {ls : List (List UInt8)} {k : Nat} {l : List UInt8} (h : ls[k]? = some l) : getI (ls.map strL) (k : Int) = some (strL l) := getI_nat (by rw [List.getElem?_map, h]; rfl)

theorem wordsOf_ok {l : List UInt8} (h : l.length ≤ 4000000) : t_impl_wordsOf (strL l) = some (some ((splitA 32 [] l).map strL)) := by
  unfold t_impl_wordsOf
  rw [splitO_one (by rw [strL_size]; omega), obind_sm, bl_strL]

theorem wordsSp_ok {l : List UInt8} (h : l.length ≤ 4000000) : t_spec_l01Split (strL l) 32 = some (some ((splitA 32 [] l).map strL)) := by
  rw [l01Split_ok (by rw [strL_size]; omega), bl_strL]

theorem strL_inj {a b : List UInt8} : strL a = strL b ↔ a = b := by
  constructor
  · intro h
    have := congrArg bl h
    rwa [bl_strL, bl_strL] at this
  · intro h
    rw [h]

theorem strL_nil {a : List UInt8} : strL a = (⟨#[]⟩ : ByteArray) ↔ a = [] := strL_inj (b := [])

/-! #### Both sides on a whole text -/
theorem getLast_map {W : List (List UInt8)} {x : List UInt8} (h : W.getLast? = some x) : (W.map strL)[W.length - 1]? = some (strL x) := by
  rw [List.getElem?_map, ← List.getLast?_eq_getElem?, h]
  rfl

/-! ### Reading symbols, plain -/
theorem lab_all : ∀ n : Fin 256, labelB (UInt8.ofNat n.val) = true → UInt8.ofNat n.val ≠ 32 ∧ UInt8.ofNat n.val ≠ 10 := by decide +kernel
theorem lab_byte {b : UInt8} (h : labelB b = true) : b ≠ 32 ∧ b ≠ 10 := by
  have := lab_all ⟨b.toNat, b.toNat_lt⟩
  simp only [UInt8.ofNat_toNat] at this
  exact this h
theorem lab_one {t : ByteArray} (h : t.size = 1) : bl t = [byte0 t] := by
  have hl : (bl t).length = 1 := by rw [bl_length, h]
  match hb : bl t, hl with
  | [b], _ => simp [byte0, hb]
theorem lab_no {s : ByteArray} (h : isLabel s = true) : (32 : UInt8) ∉ bl s ∧ (10 : UInt8) ∉ bl s := by
  unfold isLabel at h
  rw [Bool.and_eq_true, decide_eq_true_eq] at h
  obtain ⟨h1, h2⟩ := lab_byte h.2
  rw [lab_one h.1]
  constructor
  · intro hx
    exact h1 (List.mem_singleton.1 hx).symm
  · intro hx
    exact h2 (List.mem_singleton.1 hx).symm
def symL (s : Symbol) : List UInt8 := bl s.label ++ 32 :: (bl (itS s.box.x1) ++ 32 :: (bl (itS s.box.y1) ++ 32 :: (bl (itS s.box.x2) ++ 32 :: bl (itS s.box.y2))))
theorem symLine_L (s : Symbol) : symLineB s = symL s ++ [10] := by
  unfold symLineB symL
  simp
theorem symText_L (l : List Symbol) : symTextB l = linesT (l.map symL) := by
  unfold symTextB linesT
  induction l with
  | nil => rfl
  | cons b l ih => rw [List.flatMap_cons, List.map_cons, List.flatMap_cons, ih, symLine_L]
theorem symText_snoc (l : List Symbol) (s : Symbol) : symTextB (l ++ [s]) = symTextB l ++ (symL s ++ [10]) := by
  unfold symTextB
  rw [List.flatMap_append, List.flatMap_cons, List.flatMap_nil, List.append_nil, symLine_L]
theorem linesT_snoc (l : List (List UInt8)) (a : List UInt8) : linesT (l ++ [a]) = linesT l ++ (a ++ [10]) := by
  unfold linesT
  rw [List.flatMap_append, List.flatMap_cons, List.flatMap_nil, List.append_nil]
theorem okSym_w {s : Symbol} (h : okSym s = true) : ∃ a b c d : Nat, s.box.x1 = (a : Int) ∧ s.box.y1 = (b : Int) ∧ s.box.x2 = (c : Int) ∧ s.box.y2 = (d : Int) ∧ a ≤ 4095 ∧ b ≤ 4095 ∧ c ≤ 4095 ∧ d ≤ 4095 := by
  obtain ⟨_, h2, h3, h4, h5⟩ := okSym_v h
  exact ⟨s.box.x1.toNat, s.box.y1.toNat, s.box.x2.toNat, s.box.y2.toNat, by omega, by omega, by omega, by omega, by omega, by omega, by omega, by omega⟩
theorem okSym_lab {s : Symbol} (h : okSym s = true) : isLabel s.label = true := by
  unfold okSym at h
  rw [Bool.and_eq_true] at h
  exact h.1
theorem dig_no {n : Nat} : (32 : UInt8) ∉ bl (itS (n : Int)) ∧ (10 : UInt8) ∉ bl (itS (n : Int)) := by
  have hc : ∀ x ∈ bl (itS (n : Int)), 48 ≤ x.toNat := fun x hx => (dig_mem x hx).1
  exact ⟨not_mem_of fun x hx => Nat.lt_of_lt_of_le (by decide) (hc x hx), not_mem_of fun x hx => Nat.lt_of_lt_of_le (by decide) (hc x hx)⟩
theorem words_sym {s : Symbol} (h : okSym s = true) : splitA 32 [] (symL s) = [bl s.label, bl (itS s.box.x1), bl (itS s.box.y1), bl (itS s.box.x2), bl (itS s.box.y2)] ∧ (10 : UInt8) ∉ symL s := by
  obtain ⟨a, b, c, d, e1, e2, e3, e4, _⟩ := okSym_w h
  obtain ⟨l1, l2⟩ := lab_no (okSym_lab h)
  unfold symL
  rw [e1, e2, e3, e4]
  constructor
  · rw [splitA_hit l1, splitA_hit dig_no.1, splitA_hit dig_no.1, splitA_hit dig_no.1, splitA_miss dig_no.1]
    rfl
  · intro hx
    rcases List.mem_append.1 hx with hx | hx
    · exact l2 hx
    rcases List.mem_cons.1 hx with hx | hx
    · exact absurd hx (by decide)
    rcases List.mem_append.1 hx with hx | hx
    · exact dig_no.2 hx
    rcases List.mem_cons.1 hx with hx | hx
    · exact absurd hx (by decide)
    rcases List.mem_append.1 hx with hx | hx
    · exact dig_no.2 hx
    rcases List.mem_cons.1 hx with hx | hx
    · exact absurd hx (by decide)
    rcases List.mem_append.1 hx with hx | hx
    · exact dig_no.2 hx
    rcases List.mem_cons.1 hx with hx | hx
    · exact absurd hx (by decide)
    · exact dig_no.2 hx
theorem five_cs {l : List (List UInt8)} (h : l.length = 5) : ∃ a b c d e, l = [a, b, c, d, e] := by
  match l, h with
  | [a, b, c, d, e], _ => exact ⟨a, b, c, d, e, rfl⟩
theorem g5 {a b c d e : List UInt8} : getI ([a, b, c, d, e].map strL) 0 = some (strL a) ∧ getI ([a, b, c, d, e].map strL) 1 = some (strL b) ∧ getI ([a, b, c, d, e].map strL) 2 = some (strL c) ∧ getI ([a, b, c, d, e].map strL) 3 = some (strL d) ∧ getI ([a, b, c, d, e].map strL) 4 = some (strL e) :=
  ⟨getI_nat (m := 0) rfl, getI_nat (m := 1) rfl, getI_nat (m := 2) rfl, getI_nat (m := 3) rfl, getI_nat (m := 4) rfl⟩
/-- The reference's line. -/
theorem l20Line_ok {l : List UInt8} (hl : l.length ≤ 4000000) : ∃ x b, t_spec_l20Line (strL l) = some (x, b) ∧ (b = true → l = symL x) := by
  have wk := wordsSp_ok hl
  have hj := splitA_join 32 l []
  rw [List.nil_append] at hj
  have wsz := splitA_size 32 l []
  generalize splitA 32 [] l = W at wk hj wsz
  unfold t_spec_l20Line
  by_cases c5 : W.length = 5
  · obtain ⟨a, b, c, d, e, rfl⟩ := five_cs c5
    obtain ⟨q0, q1, q2, q3, q4⟩ := g5 (a := a) (b := b) (c := c) (d := d) (e := e)
    have dl : decide (((([a, b, c, d, e].map strL).length : Nat) : Int) = 5) = true := rfl
    have hs : ∀ w ∈ [a, b, c, d, e], (strL w).size ≤ 4294960000 := fun w hw => by
      have := wsz w hw
      simp only [List.length_nil, Nat.zero_add] at this
      rw [strL_size]
      omega
    obtain ⟨n1, b1, p1, r1⟩ := num_ok (strL b) (hs b (by simp))
    obtain ⟨n2, b2, p2, r2⟩ := num_ok (strL c) (hs c (by simp))
    obtain ⟨n3, b3, p3, r3⟩ := num_ok (strL d) (hs d (by simp))
    obtain ⟨n4, b4, p4, r4⟩ := num_ok (strL e) (hs e (by simp))
    simp only [wk, obind_sm, Option.getD_some, dl, Bool.not_true, cond_false, q0, q1, q2, q3, q4, p1, p2, p3, p4]
    refine ⟨⟨strL a, ⟨n1, n2, n3, n4⟩⟩, b1 && b2 && b3 && b4, ?_, fun hb => ?_⟩
    · cases b1 <;> cases b2 <;> cases b3 <;> cases b4 <;> rfl
    · simp only [Bool.and_eq_true] at hb
      have t1 := congrArg bl (r1 hb.1.1.1)
      have t2 := congrArg bl (r2 hb.1.1.2)
      have t3 := congrArg bl (r3 hb.1.2)
      have t4 := congrArg bl (r4 hb.2)
      rw [bl_strL] at t1 t2 t3 t4
      unfold symL
      dsimp only
      rw [← t1, ← t2, ← t3, ← t4, bl_strL]
      exact hj.symm
  · have dl : decide ((((W.map strL).length : Nat) : Int) = 5) = false := decide_eq_false (by rw [List.length_map]; omega)
    simp only [wk, obind_sm, Option.getD_some, dl, Bool.not_false, cond_true]
    exact ⟨_, false, rfl, fun h => by cases h⟩
theorem l20Line_of {s : Symbol} (h : okSym s = true) : t_spec_l20Line (strL (symL s)) = some (s, true) := by
  obtain ⟨a, b, c, d, e1, e2, e3, e4, k1, k2, k3, k4⟩ := okSym_w h
  have hl := symLine_len h
  rw [symLine_L, List.length_append] at hl
  have wk := wordsSp_ok (l := symL s) (by omega)
  rw [(words_sym h).1] at wk
  obtain ⟨q0, q1, q2, q3, q4⟩ := g5 (a := bl s.label) (b := bl (itS s.box.x1)) (c := bl (itS s.box.y1)) (d := bl (itS s.box.x2)) (e := bl (itS s.box.y2))
  have dl : decide (((([bl s.label, bl (itS s.box.x1), bl (itS s.box.y1), bl (itS s.box.x2), bl (itS s.box.y2)].map strL).length : Nat) : Int) = 5) = true := rfl
  have p1 : t_spec_l01Number (itS s.box.x1) = some (s.box.x1, true) := by rw [e1]; exact num_itS (by omega)
  have p2 : t_spec_l01Number (itS s.box.y1) = some (s.box.y1, true) := by rw [e2]; exact num_itS (by omega)
  have p3 : t_spec_l01Number (itS s.box.x2) = some (s.box.x2, true) := by rw [e3]; exact num_itS (by omega)
  have p4 : t_spec_l01Number (itS s.box.y2) = some (s.box.y2, true) := by rw [e4]; exact num_itS (by omega)
  unfold t_spec_l20Line
  simp only [wk, obind_sm, Option.getD_some, dl, Bool.not_true, cond_false, q0, q1, q2, q3, q4, strL_bl, p1, p2, p3, p4, cond_true]
/-- The reference, whatever the text. -/
theorem specReadS_ok {s : ByteArray} (hs : s.size ≤ 1900000) : ∃ l b, t_spec_ReadSymbols s = some (l, b) ∧ (b = false → l = none) ∧ (b = true → okSys (l.getD []) = true ∧ s = strL (symTextB (l.getD []))) := by
  have hl := bl_length s
  have wk := l01Split_ok (s := s) (c := 10) (by omega)
  have hne := splitA_ne 10 (bl s) []
  have hlen := splitA_len 10 (bl s) []
  have hsz := splitA_size 10 (bl s) []
  have hla := splitA_last 10 (bl s) []
  have hsn : ∀ l', bl s = l' ++ [10] → splitA 10 [] (bl s) = splitA 10 [] l' ++ [[]] := fun l' h => by rw [h, splitA_snoc]
  have hnil : bl s = [] → splitA 10 [] (bl s) = [[]] := fun h => by rw [h]; rfl
  obtain ⟨x, hx⟩ : ∃ x, (splitA 10 [] (bl s)).getLast? = some x := by
    cases h : (splitA 10 [] (bl s)).getLast? with
    | none => exact absurd (List.getLast?_eq_none_iff.1 h) hne
    | some x => exact ⟨x, rfl⟩
  generalize splitA 10 [] (bl s) = W at wk hne hlen hsz hla hx hsn hnil
  have hW1 : 1 ≤ W.length := Nat.one_le_iff_ne_zero.2 (fun e => hne (List.eq_nil_of_length_eq_zero e))
  have w1 : wr (((((W.map strL)).length : Nat) : Int) - 1) = ((W.length - 1 : Nat) : Int) := by
    rw [List.length_map, wr_id (by omega) (by omega)]
    omega
  have gx := getI_nat (getLast_map hx)
  unfold t_spec_ReadSymbols
  by_cases cx : x = []
  · have dx : decide (strL x = (⟨#[]⟩ : ByteArray)) = true := decide_eq_true (strL_nil.2 cx)
    subst cx
    have hT : linesT (W.take (W.length - 1)) = bl s := by
      rcases hla hx with ⟨_, h0⟩ | ⟨l', h0⟩
      · rw [hnil h0, h0]
        rfl
      · have hn2 := splitA_ne 10 l' []
        have hj := splitA_join 10 l' []
        rw [hsn l' h0, List.length_append]
        have : (splitA 10 [] l').length + [([] : List UInt8)].length - 1 = (splitA 10 [] l').length := by simp
        rw [this, List.take_left, linesT_join hn2, hj, List.nil_append, h0]
    obtain ⟨r, h1, h2⟩ := loopT_ex (step := s0_spec_ReadSymbols (some (W.map strL)))
      (fun i (st : Sl Symbol × Int) => ∃ g, st = (some g, (i : Int)) ∧ g.length = i ∧ symTextB g = linesT (W.take i)) (W.length - 1)
      (fun r => (∃ g, r = .inl (some g) ∧ g.length ≤ 2000000 ∧ symTextB g = bl s) ∨ r = .inr false)
      (fun i st hi hst => by
        obtain ⟨g, rfl, hg, hk⟩ := hst
        obtain ⟨l, hl'⟩ : ∃ l, W[i]? = some l := ⟨_, List.getElem?_eq_getElem (by omega)⟩
        have hll := hsz l (List.mem_of_getElem? hl')
        simp only [List.length_nil, Nat.zero_add] at hll
        obtain ⟨y, b, p1, p2⟩ := l20Line_ok (l := l) (by omega)
        have ci : decide ((i : Int) < ((W.length - 1 : Nat) : Int)) = true := decide_eq_true (by omega)
        have gl := getI_map hl'
        cases b with
        | false =>
          right
          refine ⟨.inr false, ?_, .inr rfl⟩
          unfold s0_spec_ReadSymbols
          dsimp only
          simp only [Option.getD_some, w1, ci, cond_true, gl, obind_sm, p1, Bool.not_false]
        | true =>
          left
          have ap := appO_some (s := some g) (l := [y]) (by show g.length + 1 ≤ _; omega)
          have ee : appS (some g) [y] = some (g ++ [y]) := rfl
          refine ⟨(some (g ++ [y]), ((i + 1 : Nat) : Int)), ?_, g ++ [y], rfl, by simp; omega, ?_⟩
          · unfold s0_spec_ReadSymbols
            dsimp only
            simp only [Option.getD_some, w1, ci, cond_true, gl, obind_sm, p1, Bool.not_true, cond_false, ap, ee, wr_succ hi (by omega : W.length - 1 ≤ 4294967296)]
          · rw [symText_snoc, hk, List.take_add_one, hl', p2 rfl]
            exact (linesT_snoc _ _).symm)
      (fun st hst => by
        obtain ⟨g, rfl, hg, hk⟩ := hst
        refine ⟨.inl (some g), ?_, .inl ⟨g, rfl, by omega, by rw [hk, hT]⟩⟩
        unfold s0_spec_ReadSymbols
        dsimp only
        rw [Option.getD_some, w1, decide_eq_false (by omega), cond_false]) (s := (some ([] : List Symbol), 0)) ⟨[], rfl, rfl, rfl⟩
    simp only [wk, obind_sm, Option.getD_some, w1, gx, dx, Bool.not_true, cond_false, h1]
    rcases h2 with ⟨g, rfl, hg, hk⟩ | rfl
    · dsimp only
      rw [l20Ok_ok (some g) (by show g.length ≤ _; omega), obind_sm]
      show ∃ l b, (bif !okSys g then _ else _) = some (l, b) ∧ _
      cases ho : okSys g with
      | false => exact ⟨_, false, rfl, fun _ => rfl, fun h => by cases h⟩
      | true => exact ⟨some g, true, rfl, (fun h => by cases h), fun _ => ⟨ho, by show s = strL (symTextB g); rw [hk, strL_bl]⟩⟩
    · exact ⟨_, false, rfl, fun _ => rfl, fun h => by cases h⟩
  · have dx : decide (strL x = (⟨#[]⟩ : ByteArray)) = false := decide_eq_false (fun h => cx (strL_nil.1 h))
    simp only [wk, obind_sm, Option.getD_some, w1, gx, dx, Bool.not_false, cond_true]
    exact ⟨_, false, rfl, fun _ => rfl, fun h => by cases h⟩
/-- The lines of a text of symbols. -/
theorem symLs_no {l : List Symbol} (h : okSys l = true) : ∀ a ∈ l.map symL, (10 : UInt8) ∉ a := by
  intro a ha
  obtain ⟨b, hb, rfl⟩ := List.mem_map.1 ha
  exact (words_sym (okSys_mem h b hb)).2
theorem split_text {l : List Symbol} (h : okSys l = true) : splitA 10 [] (symTextB l) = l.map symL ++ [[]] := by
  rw [symText_L]
  cases l with
  | nil => rfl
  | cons a t =>
    obtain ⟨l', h1, h2⟩ := split_lines (ls := (a :: t).map symL) (by simp) (symLs_no h)
    rw [h1, splitA_snoc, h2]
theorem specReadS_of {l : List Symbol} (h : okSys l = true) (hs : (strL (symTextB l)).size ≤ 1900000) : t_spec_ReadSymbols (strL (symTextB l)) = some (some l, true) := by
  have h8 := okSys_len h
  have wk := l01Split_ok (s := strL (symTextB l)) (c := 10) (by omega)
  rw [bl_strL, split_text h] at wk
  have ln : (((l.map symL ++ [[]]).map strL).length : Nat) = l.length + 1 := by simp
  have w1 : wr (((((l.map symL ++ [[]]).map strL).length : Nat) : Int) - 1) = ((l.length : Nat) : Int) := by
    rw [ln, wr_id (by omega) (by omega)]
    omega
  have gx : getI ((l.map symL ++ [[]]).map strL) ((l.length : Nat) : Int) = some (strL []) := getI_nat (by
    rw [List.getElem?_map, List.getElem?_append_right (by rw [List.length_map]; exact Nat.le_refl _), List.length_map, Nat.sub_self]
    rfl)
  have dx : decide (strL [] = (⟨#[]⟩ : ByteArray)) = true := decide_eq_true rfl
  have lp := loopT_at (step := s0_spec_ReadSymbols (some ((l.map symL ++ [[]]).map strL))) l.length (fun k => (some (l.take k), (k : Int))) (.inl (some l))
    (fun k hk => by
      obtain ⟨b, hbk⟩ : ∃ b, l[k]? = some b := ⟨_, List.getElem?_eq_getElem hk⟩
      have hv := okSys_mem h b (List.mem_of_getElem? hbk)
      have hlk : (l.map symL ++ [[]])[k]? = some (symL b) := by
        rw [List.getElem?_append_left (by rw [List.length_map]; exact hk), List.getElem?_map, hbk]
        rfl
      have gl := getI_map hlk
      have ci : decide ((k : Int) < ((l.length : Nat) : Int)) = true := decide_eq_true (by omega)
      have tk : l.take (k + 1) = l.take k ++ [b] := by rw [List.take_add_one, hbk]; rfl
      have ap := appO_some (s := some (l.take k)) (l := [b]) (by show (l.take k).length + 1 ≤ _; rw [List.length_take]; omega)
      have ee : appS (some (l.take k)) [b] = some (l.take k ++ [b]) := rfl
      rw [tk]
      unfold s0_spec_ReadSymbols
      dsimp only
      simp only [Option.getD_some, w1, ci, cond_true, gl, obind_sm, l20Line_of hv, Bool.not_true, cond_false, ap, ee, wr_succ hk (by omega : l.length ≤ 4294967296)])
    (by
      unfold s0_spec_ReadSymbols
      dsimp only
      rw [Option.getD_some, w1, decide_eq_false (by omega), cond_false, List.take_length]) 0 (by omega)
  have lp' : loopT (s0_spec_ReadSymbols (some ((l.map symL ++ [[]]).map strL))) (some ([] : List Symbol), 0) = some (.inl (some l)) := lp
  unfold t_spec_ReadSymbols
  simp only [wk, obind_sm, Option.getD_some, w1, gx, dx, Bool.not_true, cond_false, lp']
  rw [l20Ok_ok (some l) (by show l.length ≤ _; omega), obind_sm]
  show (bif !okSys l then _ else _) = _
  rw [h]
  rfl

/-! #### The program's reading of symbols -/
/-- Four numbers, read into four cells. -/
theorem readFour {w a b c d : List UInt8} (h : ∀ x ∈ [w, a, b, c, d], x.length ≤ 4000000) : loopT (s1_impl_ReadSymbols (some ([w, a, b, c, d].map strL))) (0, 0, 0, 0, 0) = some ((readDecB (strL a)).1, (readDecB (strL b)).1, (readDecB (strL c)).1, (readDecB (strL d)).1) := by
  obtain ⟨_, q1, q2, q3, q4⟩ := g5 (a := w) (b := a) (c := b) (d := c) (e := d)
  have rd : ∀ x ∈ [w, a, b, c, d], t_impl_ReadDecimal (strL x) = some (readDecB (strL x)) := fun x hx => by
    have := h x hx
    unfold t_impl_ReadDecimal
    rw [decide_eq_true (by rw [strL_size]; omega)]
    rfl
  have r1 := rd a (by simp)
  have r2 := rd b (by simp)
  have r3 := rd c (by simp)
  have r4 := rd d (by simp)
  refine loopT_at (step := s1_impl_ReadSymbols (some ([w, a, b, c, d].map strL))) 4 (fun k => (if 0 < k then (readDecB (strL a)).1 else 0, if 1 < k then (readDecB (strL b)).1 else 0, if 2 < k then (readDecB (strL c)).1 else 0, if 3 < k then (readDecB (strL d)).1 else 0, (k : Int))) _
    (fun k hk => ?_) ?_ 0 (by omega)
  · have e1 : wr ((0 : Int) + 1) = 1 := rfl
    have e2 : wr ((1 : Int) + 1) = 2 := rfl
    have e3 : wr ((2 : Int) + 1) = 3 := rfl
    have e4 : wr ((3 : Int) + 1) = 4 := rfl
    match k, hk with
    | 0, _ =>
      show s1_impl_ReadSymbols _ (0, 0, 0, 0, 0) = some (.inl ((readDecB (strL a)).1, 0, 0, 0, 1))
      unfold s1_impl_ReadSymbols
      dsimp only
      rw [e1, Option.getD_some, q1, obind_sm, r1, obind_sm]
      rfl
    | 1, _ =>
      show s1_impl_ReadSymbols _ ((readDecB (strL a)).1, 0, 0, 0, 1) = some (.inl ((readDecB (strL a)).1, (readDecB (strL b)).1, 0, 0, 2))
      unfold s1_impl_ReadSymbols
      dsimp only
      rw [e2, Option.getD_some, q2, obind_sm, r2, obind_sm]
      rfl
    | 2, _ =>
      show s1_impl_ReadSymbols _ ((readDecB (strL a)).1, (readDecB (strL b)).1, 0, 0, 2) = some (.inl ((readDecB (strL a)).1, (readDecB (strL b)).1, (readDecB (strL c)).1, 0, 3))
      unfold s1_impl_ReadSymbols
      dsimp only
      rw [e3, Option.getD_some, q3, obind_sm, r3, obind_sm]
      rfl
    | 3, _ =>
      show s1_impl_ReadSymbols _ ((readDecB (strL a)).1, (readDecB (strL b)).1, (readDecB (strL c)).1, 0, 3) = some (.inl ((readDecB (strL a)).1, (readDecB (strL b)).1, (readDecB (strL c)).1, (readDecB (strL d)).1, 4))
      unfold s1_impl_ReadSymbols
      dsimp only
      rw [e4, Option.getD_some, q4, obind_sm, r4, obind_sm]
      rfl
  · rfl
/-- The program's loop, whatever the lines. -/
theorem implLoopS {ls : List (List UInt8)} {okl : Bool} (hlen : ls.length ≤ 2000000) (hsz : ∀ l ∈ ls, l.length ≤ 4000000) :
    ∃ r, loopT (s0_impl_ReadSymbols (some (ls.map strL), okl)) ((none : Sl Symbol), 0) = some r ∧ ((∃ g, r = .inl (slT g) ∧ g.length ≤ 2000000) ∨ r = .inr false) := by
  exact loopT_ex (step := s0_impl_ReadSymbols (some (ls.map strL), okl))
    (fun i (st : Sl Symbol × Int) => ∃ g, st = (slT g, (i : Int)) ∧ g.length ≤ i) ls.length
    (fun r => (∃ g, r = .inl (slT g) ∧ g.length ≤ 2000000) ∨ r = .inr false)
    (fun i st hi hst => by
      obtain ⟨g, rfl, hg⟩ := hst
      obtain ⟨l, hl⟩ : ∃ l, ls[i]? = some l := ⟨_, List.getElem?_eq_getElem hi⟩
      have hll := hsz l (List.mem_of_getElem? hl)
      have ci' : decide ((i : Int) < (((ls.map strL).length : Nat) : Int)) = true := decide_eq_true (by rw [List.length_map]; omega)
      have gl := getI_map hl
      have wk := wordsOf_ok hll
      have wsz := splitA_size 32 l []
      generalize splitA 32 [] l = W at wk wsz
      have ws := wr_succ hi (by omega : ls.length ≤ 4294967296)
      by_cases c5 : W.length = 5
      · obtain ⟨w, a, b, c, d, rfl⟩ := five_cs c5
        obtain ⟨q0, _⟩ := g5 (a := w) (b := a) (c := b) (d := c) (e := d)
        have dl : decide (((([w, a, b, c, d].map strL).length : Nat) : Int) = 5) = true := rfl
        have lp := readFour (w := w) (a := a) (b := b) (c := c) (d := d) (fun x hx => by
          have := wsz x hx
          simp only [List.length_nil, Nat.zero_add] at this
          omega)
        left
        refine ⟨(slT (g ++ [(⟨strL w, ⟨(readDecB (strL a)).1, (readDecB (strL b)).1, (readDecB (strL c)).1, (readDecB (strL d)).1⟩⟩ : Symbol)]), ((i + 1 : Nat) : Int)), ?_, _, rfl, by simp; omega⟩
        unfold s0_impl_ReadSymbols
        dsimp only
        simp only [Option.getD_some, ci', cond_true, gl, obind_sm, wk, dl, Bool.not_true, cond_false, lp, q0, slT_app0 (l := g) _ (show g.length ≤ 4000000 by omega), slT_app, ws]
      · have dl : decide ((((W.map strL).length : Nat) : Int) = 5) = false := decide_eq_false (by rw [List.length_map]; omega)
        right
        refine ⟨.inr false, ?_, .inr rfl⟩
        unfold s0_impl_ReadSymbols
        dsimp only
        simp only [Option.getD_some, ci', cond_true, gl, obind_sm, wk, dl, Bool.not_false])
    (fun st hst => by
      obtain ⟨g, rfl, hg⟩ := hst
      refine ⟨.inl (slT g), ?_, .inl ⟨g, rfl, by omega⟩⟩
      unfold s0_impl_ReadSymbols
      dsimp only
      rw [Option.getD_some, decide_eq_false (by rw [List.length_map]; omega), cond_false]) (s := ((none : Sl Symbol), 0)) ⟨[], rfl, Nat.le_refl _⟩
/-- What stands behind the loop. -/
theorem implReadS_end {s : ByteArray} {c1 : Sl ByteArray × Bool} {g : List Symbol} (h1 : t_impl_linesOf s = some c1) (h2 : c1.2 = true) (hr : loopT (s0_impl_ReadSymbols c1) ((none : Sl Symbol), 0) = some (.inl (slT g))) (hg : g.length ≤ 2000000) :
    t_impl_ReadSymbols s = some (bif okSys g && decide (strL (symTextB g) = s) then (slT g, true) else (none, false)) := by
  have hv : t_impl_ValidSymbols (slT g) = some (okSys g) := by
    rw [validSys_ok (slT g) (by rw [slT_getD]; omega), slT_getD]
  unfold t_impl_ReadSymbols
  simp only [h1, obind_sm, h2, Bool.not_true, cond_false, hr, hv]
  unfold t_impl_SymbolsText
  rw [slT_getD, decide_eq_true (show g.length ≤ 4294967296 by omega), cond_true]
  cases okSys g with
  | false => rfl
  | true =>
    simp only [Bool.not_true, cond_false, cond_true, obind_sm, Bool.true_and]
    cases decide (strL (symTextB g) = s) <;> rfl
theorem implReadS_ok {s : ByteArray} (hs : s.size ≤ 1900000) : ∃ l b, t_impl_ReadSymbols s = some (l, b) ∧ (b = false → l = none) ∧ (b = true → okSys (l.getD []) = true ∧ s = strL (symTextB (l.getD []))) := by
  have fin : ∀ {c1 : Sl ByteArray × Bool} {g : List Symbol}, t_impl_linesOf s = some c1 → c1.2 = true → loopT (s0_impl_ReadSymbols c1) ((none : Sl Symbol), 0) = some (.inl (slT g)) → g.length ≤ 2000000 → ∃ l b, t_impl_ReadSymbols s = some (l, b) ∧ (b = false → l = none) ∧ (b = true → okSys (l.getD []) = true ∧ s = strL (symTextB (l.getD []))) := by
    intro c1 g h1 h2 hr hg
    rw [implReadS_end h1 h2 hr hg]
    cases h : okSys g && decide (strL (symTextB g) = s) with
    | false => exact ⟨_, false, rfl, fun _ => rfl, fun h => by cases h⟩
    | true =>
      rw [Bool.and_eq_true] at h
      exact ⟨_, true, rfl, (fun h => by cases h), fun _ => by rw [slT_getD]; exact ⟨h.1, (of_decide_eq_true h.2).symm⟩⟩
  rcases linesOf_ok (s := s) (by omega) with ⟨h0, h1⟩ | ⟨l', h0, h1⟩ | ⟨_, _, h1⟩
  · exact fin (g := []) h1 rfl (loopT_end (by
      unfold s0_impl_ReadSymbols
      rfl)) (Nat.zero_le _)
  · have hl := bl_length s
    have hl2 : l'.length + 1 = s.size := by
      rw [← hl, h0, List.length_append]
      rfl
    have hlen := splitA_len 10 l' []
    have hsz := splitA_size 10 l' []
    obtain ⟨r, q1, q2⟩ := implLoopS (ls := splitA 10 [] l') (okl := true) (by omega) (fun l hl' => by
      have := hsz l hl'
      simp only [List.length_nil] at this
      omega)
    rcases q2 with ⟨g, rfl, hg⟩ | rfl
    · exact fin h1 rfl q1 hg
    · unfold t_impl_ReadSymbols
      simp only [h1, obind_sm, Bool.not_true, cond_false, q1]
      exact ⟨_, false, rfl, fun _ => rfl, fun h => by cases h⟩
  · unfold t_impl_ReadSymbols
    simp only [h1, obind_sm, Bool.not_false, cond_true]
    exact ⟨_, false, rfl, fun _ => rfl, fun h => by cases h⟩

theorem implReadS_of {l : List Symbol} (h : okSys l = true) (hs : (strL (symTextB l)).size ≤ 1900000) : t_impl_ReadSymbols (strL (symTextB l)) = some (slT l, true) := by
  have h8 := okSys_len h
  have hsp := split_text h
  obtain ⟨c1, hlin, hc2, hlp⟩ : ∃ c1, t_impl_linesOf (strL (symTextB l)) = some c1 ∧ c1.2 = true ∧ c1.1.getD [] = (l.map symL).map strL := by
    rcases linesOf_ok (s := strL (symTextB l)) (by omega) with ⟨h0, q⟩ | ⟨l2, h0, q⟩ | ⟨h0, h9, _⟩
    · refine ⟨_, q, rfl, ?_⟩
      have hb : symTextB l = [] := by
        rw [← bl_strL (symTextB l), h0]
        rfl
      cases l with
      | nil => rfl
      | cons a t =>
        exfalso
        rw [hb] at hsp
        have := congrArg List.length hsp
        simp [splitA] at this
    · refine ⟨_, q, rfl, ?_⟩
      rw [bl_strL] at h0
      rw [h0, splitA_snoc] at hsp
      have := List.append_cancel_right hsp
      rw [this]
      rfl
    · exfalso
      cases l with
      | nil => exact h9 rfl
      | cons a t =>
        obtain ⟨l', h1, _⟩ := split_lines (ls := (a :: t).map symL) (by simp) (symLs_no h)
        exact h0 l' (by rw [bl_strL, symText_L, h1])
  obtain ⟨L, okl⟩ := c1
  dsimp only at hc2 hlp
  subst hc2
  have lp := loopT_at (step := s0_impl_ReadSymbols (L, true)) l.length (fun k => (slT (l.take k), (k : Int))) (.inl (slT l))
    (fun k hk => by
      have ci' : decide ((k : Int) < ((((l.map symL).map strL).length : Nat) : Int)) = true := decide_eq_true (by rw [List.length_map, List.length_map]; omega)
      obtain ⟨b, hbk⟩ : ∃ b, l[k]? = some b := ⟨_, List.getElem?_eq_getElem hk⟩
      have hv := okSys_mem h b (List.mem_of_getElem? hbk)
      have hlk : (l.map symL)[k]? = some (symL b) := by
        rw [List.getElem?_map, hbk]
        rfl
      have gl := getI_map hlk
      have hbl := symLine_len hv
      rw [symLine_L, List.length_append] at hbl
      have wk := wordsOf_ok (l := symL b) (by omega)
      have wsz := splitA_size 32 (symL b) []
      rw [(words_sym hv).1] at wk wsz
      obtain ⟨x1, x2, x3, x4, e1, e2, e3, e4, k1, k2, k3, k4⟩ := okSym_w hv
      obtain ⟨q0, _⟩ := g5 (a := bl b.label) (b := bl (itS b.box.x1)) (c := bl (itS b.box.y1)) (d := bl (itS b.box.x2)) (e := bl (itS b.box.y2))
      have dl : decide (((([bl b.label, bl (itS b.box.x1), bl (itS b.box.y1), bl (itS b.box.x2), bl (itS b.box.y2)].map strL).length : Nat) : Int) = 5) = true := rfl
      have lp := readFour (w := bl b.label) (a := bl (itS b.box.x1)) (b := bl (itS b.box.y1)) (c := bl (itS b.box.x2)) (d := bl (itS b.box.y2)) (fun x hx => by
        have := wsz x hx
        simp only [List.length_nil, Nat.zero_add] at this
        omega)
      have r1 : (readDecB (itS b.box.x1)).1 = b.box.x1 := by rw [e1, readDec_itS (by omega)]
      have r2 : (readDecB (itS b.box.y1)).1 = b.box.y1 := by rw [e2, readDec_itS (by omega)]
      have r3 : (readDecB (itS b.box.x2)).1 = b.box.x2 := by rw [e3, readDec_itS (by omega)]
      have r4 : (readDecB (itS b.box.y2)).1 = b.box.y2 := by rw [e4, readDec_itS (by omega)]
      simp only [strL_bl, r1, r2, r3, r4] at lp q0
      have eb : (⟨b.label, ⟨b.box.x1, b.box.y1, b.box.x2, b.box.y2⟩⟩ : Symbol) = b := rfl
      have tk : l.take (k + 1) = l.take k ++ [b] := by rw [List.take_add_one, hbk]; rfl
      have hlt : (l.take k).length ≤ 4000000 := by rw [List.length_take]; omega
      rw [tk]
      unfold s0_impl_ReadSymbols
      dsimp only
      simp only [hlp, ci', cond_true, gl, obind_sm, wk, dl, Option.getD_some, Bool.not_true, cond_false, lp, q0, eb, slT_app0 (l := l.take k) _ hlt, slT_app, wr_succ hk (by omega : l.length ≤ 4294967296)])
    (by
      unfold s0_impl_ReadSymbols
      dsimp only
      rw [hlp, decide_eq_false (by rw [List.length_map, List.length_map]; omega), cond_false, List.take_length]) 0 (by omega)
  have lp' : loopT (s0_impl_ReadSymbols (L, true)) ((none : Sl Symbol), 0) = some (.inl (slT l)) := lp
  rw [implReadS_end hlin rfl lp' (by omega), h, decide_eq_true rfl]
  rfl
/-- Both sides read the same symbols. -/
theorem readS_both {s : ByteArray} (hs : s.size ≤ 1900000) : ∃ l1 l2 b, t_spec_ReadSymbols s = some (l1, b) ∧ t_impl_ReadSymbols s = some (l2, b) ∧ l1.getD [] = l2.getD [] ∧ (l2.getD []).length ≤ 8 := by
  obtain ⟨l1, b1, p1, p2, p3⟩ := specReadS_ok hs
  obtain ⟨l2, b2, q1, q2, q3⟩ := implReadS_ok hs
  cases b1 with
  | true =>
    obtain ⟨h1, h2⟩ := p3 rfl
    have hi := implReadS_of h1 (by rw [← h2]; exact hs)
    rw [← h2] at hi
    exact ⟨l1, _, true, p1, hi, by rw [slT_getD], by rw [slT_getD]; exact okSys_len h1⟩
  | false =>
    cases b2 with
    | true =>
      obtain ⟨h1, h2⟩ := q3 rfl
      have hsp := specReadS_of h1 (by rw [← h2]; exact hs)
      rw [← h2, p1] at hsp
      cases hsp
    | false =>
      cases p2 rfl
      cases q2 rfl
      exact ⟨_, _, false, p1, q1, rfl, Nat.zero_le _⟩

theorem mkSy_get : ∀ (n k i : Nat), i < n → (mkSy k n)[i]? = some ⟨markT (k + 5 * i), ⟨((k + 5 * i + 1 : Nat) : Int), ((k + 5 * i + 2 : Nat) : Int), ((k + 5 * i + 3 : Nat) : Int), ((k + 5 * i + 4 : Nat) : Int)⟩⟩
  | 0, _, _, h => by omega
  | n + 1, k, 0, _ => by simp [mkSy]
  | n + 1, k, i + 1, h => by
    have := mkSy_get n (k + 5) i (by omega)
    simp only [mkSy, List.getElem?_cons_succ, this]
    have e : k + 5 + 5 * i = k + 5 * (i + 1) := by omega
    rw [e]
theorem heldSy_ok {s : Sl Symbol} {n : Nat} (hs : s.getD [] = mkSy 1 n) (hn : n ≤ 2000000) : t_laws_heldSymbolS s 1 = some (1 + 5 * (n : Int)) := by
  have lp := loopT_at (step := s0_laws_heldSymbolS s) n (fun k => (((1 + 5 * k : Nat) : Int), (k : Int))) (.inl ((1 + 5 * n : Nat) : Int))
    (fun k hk => by
      have c : (k : Int) < (((mkSy 1 n).length : Nat) : Int) := by rw [mkSy_len]; omega
      have ws := wr_succ hk (by omega)
      have w1 : wr (((1 + 5 * k : Nat) : Int) + 1) = ((1 + 5 * k + 1 : Nat) : Int) := by rw [wr_id (by omega) (by omega)]; omega
      have w2 : wr (((1 + 5 * k + 1 : Nat) : Int) + 1) = ((1 + 5 * k + 2 : Nat) : Int) := by rw [wr_id (by omega) (by omega)]; omega
      have w3 : wr (((1 + 5 * k + 2 : Nat) : Int) + 1) = ((1 + 5 * k + 3 : Nat) : Int) := by rw [wr_id (by omega) (by omega)]; omega
      have w4 : wr (((1 + 5 * k + 3 : Nat) : Int) + 1) = ((1 + 5 * k + 4 : Nat) : Int) := by rw [wr_id (by omega) (by omega)]; omega
      have w5 : wr (((1 + 5 * k + 4 : Nat) : Int) + 1) = ((1 + 5 * (k + 1) : Nat) : Int) := by rw [wr_id (by omega) (by omega)]; omega
      unfold s0_laws_heldSymbolS
      simp only [hs, c, decide_true, cond_true, getI_nat (mkSy_get n 1 k hk), obind_sm, Bool.not_true, cond_false, ws, w1, w2, w3, w4, w5, markText_ok (show 1 + 5 * k ≤ 100000000 by omega)])
    (by
      have c : ¬ (n : Int) < (((mkSy 1 n).length : Nat) : Int) := by rw [mkSy_len]; omega
      unfold s0_laws_heldSymbolS
      simp only [hs, c, decide_false, cond_false])
    0 (Nat.zero_le _)
  have lp' : loopT (s0_laws_heldSymbolS s) (1, 0) = some (.inl ((1 + 5 * n : Nat) : Int)) := lp
  have e : ((1 + 5 * n : Nat) : Int) = 1 + 5 * (n : Int) := by omega
  unfold t_laws_heldSymbolS
  rw [lp', obind_sm, e]
theorem markSy_ok (s : Sl Symbol) (hl : (s.getD []).length ≤ 1000) : ∃ v : Sl Symbol, t_laws_markSymbolS s 1 = some (1 + 5 * (((s.getD []).length : Nat) : Int), v) ∧ t_laws_heldSymbolS v 1 = some (1 + 5 * (((s.getD []).length : Nat) : Int)) := by
  refine ⟨s.map fun l => mkSy 1 l.length, ?_, ?_⟩
  · unfold t_laws_markSymbolS
    have d2 : decide (1 + 5 * (((s.getD []).length : Nat) : Int) ≤ 100000000) = true := decide_eq_true (by omega)
    rw [d2]
    rfl
  · have g : (s.map fun l => mkSy 1 l.length).getD [] = mkSy 1 (s.getD []).length := by cases s <;> rfl
    exact heldSy_ok g (by omega)

theorem true_FnExactReadSymbols (s : ByteArray) : t_laws_FnExactReadSymbols s = some true := by
  unfold t_laws_FnExactReadSymbols
  by_cases c : 1048576 < (s.size : Int)
  · rw [decide_eq_true c, cond_true]
  rw [decide_eq_false c, cond_false]
  obtain ⟨l1, l2, b, p1, p2, e1, hl⟩ := readS_both (s := s) (by omega)
  have E := eqSy_ok (a := l2) (b := l1) e1.symm (by omega)
  obtain ⟨v, M, Hd⟩ := markSy_ok l2 (by omega)
  have z : decide (1 + 5 * (((l2.getD []).length : Nat) : Int) < 0) = false := decide_eq_false (by omega)
  have bb : (b == b) = true := beq_self_eq_true b
  simp only [p1, p2, obind_sm, E, Bool.not_true, cond_false, bb, M, Hd, z, decide_true]

theorem ok_laws_FnExactReadSymbols : PureOK Tryd.prog n_laws_FnExactReadSymbols (G1 (fun _ : ByteArray => true) fun _ => bv true) := lawC1 tt_laws_FnExactReadSymbols fun a _ => true_FnExactReadSymbols a
theorem law_FnExactReadSymbols (a : ByteArray) (_ : Row.fine a) : G1 (fun _ : ByteArray => true) (fun _ => bv true) [enc a] = some (bv true) := G1_enc _ _ a rfl

theorem isC_9 {cs : List AV} (h : IsC Tryd.prog 9 cs) : ∃ x : ByteArray, cs = Row.cells x ∧ Row.fine x := by
  obtain ⟨n, rfl, hn⟩ := IsC.strE Tryd.underlying9 h
  exact ⟨n, rfl, hn⟩
theorem own : ownKnob Tryd.prog.godebug = none := by kernel_rfl
theorem laidOut : laidOutB Tryd.prog = true := by kernel_rfl

theorem door_met (os : Os) (args : Array Value) : laidMetH Tryd.prog Rows.fnExactReadSymbolsRow.laid ((World.laidAll Tryd.prog os Rows.fnExactReadSymbolsRow.laid).forCall (fun _ _ => 0) ⟨#[], args, []⟩).memory :=
  by rw [MakeChecks.laidMetH_plain _ _ _ (by kernel_rfl)]; exact laidMet_laidAll _ (by kernel_rfl) (by kernel_rfl)
theorem star_err : "*" ++ "errors.errorString" = "*errors.errorString" := by decide
theorem row_err (u : TypeId) (h : Tryd.prog.typeName? 3 u = some "*errors.errorString") : u = 99 :=
  typeName_ptr_named (nm := "errors.errorString") (by rw [star_err]; kernel_rfl) (by kernel_rfl) (by decide) u (by rw [star_err]; exact h)
theorem globs {W : World} (hsh : W.ShapedOpen Tryd.prog) (h : laidMetH Tryd.prog Rows.fnExactReadSymbolsRow.laid W) : Glob Tryd.prog W := by
  have e : Rows.fnExactReadSymbolsRow.laid = [("math/bits.deBruijn32tab", Rows.laid_math_bits_deBruijn32tab), ("math/bits.deBruijn64tab", Rows.laid_math_bits_deBruijn64tab), ("internal/strconv.uint64pow10", Lib.tabData .u64 Lib.pow10Tab), ("unicode/utf8.acceptRanges", Rows.laid_unicode_utf8_acceptRanges), ("strconv.ErrRange", Rows.laid_strconv_ErrRange), ("strconv.ErrSyntax", Rows.laid_strconv_ErrSyntax), ("unicode/utf8.first", Rows.laid_unicode_utf8_first)] := by kernel_rfl
  rw [MakeChecks.laidMetH_plain _ _ _ (by kernel_rfl), e] at h
  have hL := h
  have hp : Lib.TabIs Tryd.prog W "internal/strconv.uint64pow10" .u64 Lib.pow10Tab := Lib.tabIs_of_head (g := 3) (t := 103) (e := 75) (n := 20) (by kernel_rfl) (by kernel_rfl) Tryd.underlying103 Tryd.underlying75 (by kernel_rfl) (by kernel_rfl) hL.tail.tail
  obtain ⟨a1, s1, hv1, _⟩ := laid_sentinel (n := "strconv.ErrRange") (nm := "*errors.errorString") (g := 1) hL.tail.tail.tail.tail (by kernel_rfl) (by kernel_rfl) Tryd.underlying51 row_err Tryd.underlying99 Tryd.underlying101 rfl rfl Tryd.underlying9 (by kernel_rfl) (by kernel_rfl)
  obtain ⟨a2, s2, hv2, _⟩ := laid_sentinel (n := "strconv.ErrSyntax") (nm := "*errors.errorString") (g := 0) hL.tail.tail.tail.tail.tail (by kernel_rfl) (by kernel_rfl) Tryd.underlying51 row_err Tryd.underlying99 Tryd.underlying101 rfl rfl Tryd.underlying9 (by kernel_rfl) (by kernel_rfl)
  obtain ⟨m, hm⟩ := Go.Proofs.cell_of_shapedOpen_int (zero := #[.int .i64 0]) (g := 2) (t := 3) (k := .i64) hsh (of_decide_eq_true (by kernel_rfl)) (by kernel_rfl) rfl (by kernel_rfl) (by kernel_rfl) Tryd.underlying3
  intro t ht g hg
  unfold libTabs at ht
  simp only [List.mem_cons, List.not_mem_nil, or_false] at ht
  rcases ht with rfl | rfl | rfl | rfl
  · exact hp
  · exact .inl ⟨rfl, 2, m, by kernel_rfl, hm⟩
  · exact .inr ⟨by decide, _, _, hv2⟩
  · exact .inr ⟨by decide, _, _, hv1⟩
set_option maxRecDepth 100000 in
theorem rowHolds : Rows.FnExactReadSymbolsSaid :=
  OpenClaim.holds_of_wide 3 Tryd.f3 rfl rfl rfl rfl rfl rfl rfl ⟨rfl, rfl, rfl, rfl, rfl⟩ rfl rfl rfl rfl rfl (by kernel_rfl) Tryd.func3 (by kernel_rfl)
    (of_decide_eq_true (by kernel_rfl)) (by unfold Func.isWrapper; rw [if_neg (by decide +kernel)]; exact ⟨rfl, rfl⟩)
    (fun os started H enc _ => law_doorS (C := Tryd.checked) (s := Rows.fnExactReadSymbolsSpec) (laid := Rows.fnExactReadSymbolsRow.laid) own started (by kernel_rfl) Tryd.func3
      (ChangeSpec.witness_shaped (enc := enc) (C := Tryd.checked) (os := os) (X := fun w _ => laidMetH Tryd.prog Rows.fnExactReadSymbolsRow.laid w) false (World.laidAll Tryd.prog os Rows.fnExactReadSymbolsRow.laid) #[.string ⟨#[]⟩] 8 (World.laidAll_os _ _ _) (World.shaped_of_ZipB (by kernel_rfl) (by kernel_rfl)) (by kernel_rfl) (by kernel_rfl) (by kernel_rfl) (door_met os _))
      laidOut rfl (tb := 4) rfl Tryd.underlying4 (ts := [9]) (by kernel_rfl)
      (fun ds h => by match ds, h with | [d0], _ => rfl)
      hb_laws_FnExactReadSymbols ok_laws_FnExactReadSymbols (by
    intro l h
    obtain ⟨a0, l0, rfl, g0, k0⟩ := h
    cases k0
    obtain ⟨b0, e0, w0⟩ := isC_9 (isV_one (by kernel_rfl) g0)
    obtain rfl := one_enc e0
    exact law_FnExactReadSymbols b0 w0) (fun W hs h => globs hs h))
theorem holds : Rows.FnExactReadSymbolsCardSaid :=
  Claim7.holds_tied_plain_at .later [] [.data, .data, .data, .data, .sentinel, .sentinel, .pinned] true (true, "fc3a7a34e48b99cca356b65b0489cc48bbaf91e428fe0a6b3546f8950203e448") true
    rowHolds (fun _ h => by cases h) (by kernel_rfl) (fun _ h => by cases h) fnExactReadSymbols_row_tie rfl ⟨rfl, rfl⟩ (by kernel_rfl) rfl
    (fun f fn hf hfn => by
      obtain rfl : f = 3 := Option.some.inj ((show Tryd.prog.funcNamed Rows.fnExactReadSymbolsRow.func = some 3 by kernel_rfl).symm.trans hf) |>.symm
      obtain rfl : fn = Tryd.f3 := (Option.some.inj (Tryd.func3.symm.trans hfn)).symm
      exact ⟨by kernel_rfl, fun j t ht => by
        rw [Tryd.params3] at ht
        have hm : t ∈ [9] := by simpa using Array.mem_of_getElem? ht
        have hall : ([9].all fun u => !Tryd.prog.wantsStandIn u) = true := by kernel_rfl
        exact (show Tryd.prog.wantsStandIn t = false by simpa using List.all_eq_true.1 hall t hm)⟩)
    (by kernel_rfl)
#print axioms holds
end Go.Proofs.YtbamachgomdjkaaDoor
