/-
  The law FnExactCountModel holds, for all arguments: it returns true, and its arguments read behind the call as before. No condition.
-/
import Derived.Test.YtokbncnochagaaaFnExactCountModelPartA
import Derived.Test.YtokbncnochagaaaRows
namespace Go.Proofs.Ytokbncnochagaaa
open Go Go.Eng Go.Eng.Cod
set_option maxRecDepth 100000
set_option linter.unusedVariables false
set_option linter.unusedSimpArgs false

theorem lpk_laws_markStringS (env : Nat → Contract) (he : env n_laws_markText = .pure (G1 (fun k : Int => decide (0 ≤ k) && decide (k ≤ 100000000)) fun k => sv (markT k.toNat))) {y2 y3 y4 y19 : AV} (o n : Nat) : ∀ (S P : List (List AV)) (k i : Nat) (h : Heap), i = P.length → P.length + S.length = n → n ≤ 4294967296 → (∀ r ∈ S, r.length = 1) → k + 1 * S.length ≤ 100000000 → h[o]? = some ⟨1, P ++ S⟩ →
    (obind (loopP hm0_laws_markStringS xm0_laws_markStringS (lb0_laws_markStringS env) [.sl o n 0 n, iv (k : Nat), y2, y3, y4, iv (i : Nat), .top, .top, .top, .top, .top, .top, .top, .top, .top, .top, .top, .top, .top, y19] h) fun r => lk0_laws_markStringS env r.1 r.2.1 r.2.2) = some (iv ((k + 1 * S.length : Nat) : Int), h.set o ⟨1, P ++ mrows [true] k S.length⟩) := by
  intro S
  induction S with
  | nil =>
    intro P k i h hi hl hn hr hk ho
    have : ¬ i < n := by simp at hl; omega
    have hs := set_same ho
    simp at hs
    rw [loopP.eq_1]
    simp [e_lb0_laws_markStringS, restr, e_lk0x0_laws_markStringS, this, mrows, hs]
  | cons r S ih =>
    intro P k i h hi hl hn hr hk ho
    have hl' : P.length + (S.length + 1) = n := by simpa using hl
    simp only [List.length_cons] at hk
    have hlt : i < n := by omega
    have hrl := hr r (by simp)
    obtain ⟨c0, rfl⟩ : ∃ c0, r = [c0] := by
      match r, hrl with
      | [c0], _ => exact ⟨c0, rfl⟩
    have olt := (List.getElem?_eq_some_iff.1 ho).1
    have a0 := mark_addr (w := 1) (r := [c0]) ho hi hl'
    have s0 := mark_store (j := 0) (v := sv (markT k)) ho hi hl' rfl rfl (by simp)
    simp only [List.set_cons_zero, List.set_cons_succ, List.set_set] at s0
    have g0 : (h.set o ⟨1, P ++ [(sv (markT k))] :: S⟩)[o]? = some ⟨1, P ++ [(sv (markT k))] :: S⟩ := by simp [olt]
    have w0 : wr ((k : Int) + 1) = ((k + 1 : Nat) : Int) := by rw [wr_id (by omega) (by omega)]; omega
    have t0 : (0 ≤ (k : Int)) = True := eq_true (by omega)
    have u0 : ((k : Int) ≤ 100000000) = True := eq_true (by omega)
    have q0 : ∀ h, aCall (env n_laws_markText) [iv (k : Int)] h = some (sv (markT k), h) := fun h => by
      rw [he]
      simp [-Int.natCast_add, t0, u0]
    have wi : wr ((i : Int) + 1) = ((i + 1 : Nat) : Int) := by rw [wr_id (by omega) (by omega)]; omega
    have r := ih (P ++ [[(sv (markT k))]]) (k + 1) (i + 1) (h.set o ⟨1, P ++ [(sv (markT k))] :: S⟩) (by simp [hi]) (by simp; omega) hn (fun r hr' => hr r (by simp [hr'])) (by omega) (by simp [olt])
    have hlz : ((i : Int) < (n : Nat)) := by omega
    rw [loopP.eq_1]
    simp only [e_lb0_laws_markStringS, aLenK_sl, obind_sm, aBin_lss, condB_bv, hlz, decide_true, cond_true, aFieldAddr_ptr, Nat.zero_add, a0, s0, w0, q0, obind2_sm, wi, aBin_add, restr, cond_false]
    rw [r]
    simp only [mrows, mrow, List.length_cons, List.set_set, List.append_assoc, List.singleton_append, cond_true, cond_false, Nat.add_assoc]
    congr 3
    · omega
theorem genk_laws_markStringS (env : Nat → Contract) (he : env n_laws_markText = .pure (G1 (fun k : Int => decide (0 ≤ k) && decide (k ≤ 100000000)) fun k => sv (markT k.toNat))) (R : List (List AV)) (o n : Nat) (hn : R.length = n) (hl : n ≤ 4294967296) (hr : ∀ r ∈ R, r.length = 1) (k : Nat) (hk : k + 1 * n ≤ 100000000) (h : Heap) (ho : h[o]? = some ⟨1, R⟩) :
    denFn Try.prog env n_laws_markStringS [.sl o n 0 n, iv (k : Nat)] h = some (iv ((k + 1 * n : Nat) : Int), h.set o ⟨1, mrows [true] k n⟩) := by
  have L := fun {y2 y3 y4 y19} => @lpk_laws_markStringS env he y2 y3 y4 y19 o n R [] k 0 h rfl (by simpa using hn) hl hr (by rw [hn]; exact hk) (by simpa using ho)
  rw [hn] at L
  simp [-Int.natCast_add] at L
  simp [-Int.natCast_add, e_laws_markStringS, L]

/-- Marks in a list of texts. -/
def mkSt : Nat → Nat → List ByteArray
  | _, 0 => []
  | k, n + 1 => markT k :: mkSt (k + 1) n
theorem mkSt_len : ∀ (n k : Nat), (mkSt k n).length = n
  | 0, _ => rfl
  | n + 1, k => by simp [mkSt, mkSt_len n]
def t_laws_markStringS (s : Sl ByteArray) (k : Int) : Option (Int × Sl ByteArray) := bif decide (0 ≤ k) && decide (k + 1 * ((s.getD []).length : Nat) ≤ 100000000) then some (k + 1 * ((s.getD []).length : Nat), s.map fun l => mkSt k.toNat l.length) else none
/-- Marks in a list of pairs of words. -/
def mkBg : Nat → Nat → List Bigram
  | _, 0 => []
  | k, n + 1 => ⟨markT k, markT (k + 1), ((k + 2 : Nat) : Int)⟩ :: mkBg (k + 3) n
theorem mkBg_len : ∀ (n k : Nat), (mkBg k n).length = n
  | 0, _ => rfl
  | n + 1, k => by simp [mkBg, mkBg_len n]
def t_laws_markBigramS (s : Sl Bigram) (k : Int) : Option (Int × Sl Bigram) := bif decide (0 ≤ k) && decide (k + 3 * ((s.getD []).length : Nat) ≤ 100000000) then some (k + 3 * ((s.getD []).length : Nat), s.map fun l => mkBg k.toNat l.length) else none

noncomputable def ev_laws_markStringS : Nat → Contract := envL [(n_laws_markText, .pure (G1 (fun k : Int => decide (0 ≤ k) && decide (k ≤ 100000000)) fun k => sv (markT k.toNat)))]
theorem eo_laws_markStringS : EnvOK Try.prog ev_laws_markStringS := Econs okB_laws_markText E0
noncomputable def ev_laws_markBigramS : Nat → Contract := envL [(n_laws_markText, .pure (G1 (fun k : Int => decide (0 ≤ k) && decide (k ≤ 100000000)) fun k => sv (markT k.toNat)))]
theorem eo_laws_markBigramS : EnvOK Try.prog ev_laws_markBigramS := Econs okB_laws_markText E0

theorem mrows_St : ∀ (n k : Nat), mrows [true] k n = (mkSt k n).map Row.cells
  | 0, _ => rfl
  | n + 1, k => by
    have ih := mrows_St n (k + 1)
    show [sv (markT k)] :: mrows [true] (k + 1) n = [sv (markT k)] :: (mkSt (k + 1) n).map Row.cells
    rw [ih]
theorem mk_laws_markStringS : MarkOK (denFn Try.prog ev_laws_markStringS n_laws_markStringS) t_laws_markStringS := by
  have he : ev_laws_markStringS n_laws_markText = .pure (G1 (fun k : Int => decide (0 ≤ k) && decide (k ≤ 100000000)) fun k => sv (markT k.toNat)) := by simp [ev_laws_markStringS, envL]
  intro s k r s' h
  unfold t_laws_markStringS at h
  cases c : decide (0 ≤ k) && decide (k + 1 * ((s.getD []).length : Nat) ≤ 100000000) with
  | false => rw [c] at h; cases h
  | true =>
    rw [c] at h
    simp only [cond_true, Option.some.injEq, Prod.mk.injEq] at h
    obtain ⟨rfl, rfl⟩ := h
    simp only [Bool.and_eq_true, decide_eq_true_eq] at c
    obtain ⟨m, rfl⟩ := Int.eq_ofNat_of_zero_le c.1
    cases s with
    | none =>
      refine .inl ⟨rfl, rfl, fun h => ?_⟩
      rw [e_laws_markStringS, loopP.eq_1]
      simp [e_lb0_laws_markStringS, e_lk0x0_laws_markStringS, restr]
    | some l =>
      refine .inr ⟨l, mkSt m l.length, rfl, rfl, mkSt_len _ _, fun o h ho => ?_⟩
      have g := genk_laws_markStringS ev_laws_markStringS he (l.map Row.cells) o l.length (by simp) (by simp only [Option.getD_some] at c; omega) (fun r hr => by
        obtain ⟨a, _, rfl⟩ := List.mem_map.1 hr
        rfl) m (by simp only [Option.getD_some] at c; omega) h ho
      rw [mrows_St] at g
      rw [g]
      simp only [Option.getD_some]
      congr 3

theorem mrows_Bg : ∀ (n k : Nat), mrows [true, true, false] k n = (mkBg k n).map Row.cells
  | 0, _ => rfl
  | n + 1, k => by
    have ih := mrows_Bg n (k + 3)
    show [sv (markT k), sv (markT (k + 1)), iv ((k + 1 + 1 : Nat) : Int)] :: mrows [true, true, false] (k + 3) n = [sv (markT k), sv (markT (k + 1)), iv ((k + 2 : Nat) : Int)] :: (mkBg (k + 3) n).map Row.cells
    rw [ih]
theorem mk_laws_markBigramS : MarkOK (denFn Try.prog ev_laws_markBigramS n_laws_markBigramS) t_laws_markBigramS := by
  have he : ev_laws_markBigramS n_laws_markText = .pure (G1 (fun k : Int => decide (0 ≤ k) && decide (k ≤ 100000000)) fun k => sv (markT k.toNat)) := by simp [ev_laws_markBigramS, envL]
  intro s k r s' h
  unfold t_laws_markBigramS at h
  cases c : decide (0 ≤ k) && decide (k + 3 * ((s.getD []).length : Nat) ≤ 100000000) with
  | false => rw [c] at h; cases h
  | true =>
    rw [c] at h
    simp only [cond_true, Option.some.injEq, Prod.mk.injEq] at h
    obtain ⟨rfl, rfl⟩ := h
    simp only [Bool.and_eq_true, decide_eq_true_eq] at c
    obtain ⟨m, rfl⟩ := Int.eq_ofNat_of_zero_le c.1
    cases s with
    | none =>
      refine .inl ⟨rfl, rfl, fun h => ?_⟩
      rw [e_laws_markBigramS, loopP.eq_1]
      simp [e_lb0_laws_markBigramS, e_lk0x0_laws_markBigramS, restr]
    | some l =>
      refine .inr ⟨l, mkBg m l.length, rfl, rfl, mkBg_len _ _, fun o h ho => ?_⟩
      have g := gen_laws_markBigramS ev_laws_markBigramS he (l.map Row.cells) o l.length (by simp) (by simp only [Option.getD_some] at c; omega) (fun r hr => by
        obtain ⟨a, _, rfl⟩ := List.mem_map.1 hr
        rfl) m (by simp only [Option.getD_some] at c; omega) h ho
      rw [mrows_Bg] at g
      rw [g]
      simp only [Option.getD_some]
      congr 3

noncomputable def ev_laws_markModel : Nat → Contract := envL [(n_laws_markBigramS, .gen (denFn Try.prog ev_laws_markBigramS n_laws_markBigramS))]
theorem eo_laws_markModel : EnvOK Try.prog ev_laws_markModel := EconsG (gen_of_den eo_laws_markBigramS mixed hb_laws_markBigramS) E0
theorem mk_laws_markModel : MarkGOK 2 1 (denFn Try.prog ev_laws_markModel n_laws_markModel) t_laws_markBigramS :=
  markG_of (g1 := n_laws_markBigramS) (env := ev_laws_markModel) (by simp [ev_laws_markModel, envL]) mk_laws_markBigramS fun cs x1 h => e_laws_markModel _ _ _ _

/-- Marks in a table of lists of texts. -/
def mkLS : List (Sl ByteArray) → Int → Option (Int × List (Sl ByteArray))
  | [], k => some (k, [])
  | a :: l, k => obind (t_laws_markStringS a k) fun p => obind (mkLS l p.1) fun q => some (q.1, p.2 :: q.2)
def t_laws_markStringSS (s : Sl (Sl ByteArray)) (k : Int) : Option (Int × Sl (Sl ByteArray)) := bif decide ((s.getD []).length ≤ 4294967296) then match s with
  | none => some (k, none)
  | some l => obind (mkLS l k) fun q => some (q.1, some q.2) else none

noncomputable def ev_laws_markStringSS : Nat → Contract := envL [(n_laws_markStringS, .gen (denFn Try.prog ev_laws_markStringS n_laws_markStringS))]
theorem eo_laws_markStringSS : EnvOK Try.prog ev_laws_markStringSS := EconsG (gen_of_den eo_laws_markStringS mixed hb_laws_markStringS) E0
theorem lp_laws_markStringSS {B : Base} {l : List Ent} {x y2 y3 y4 y18 : AV} : ∀ (n i : Nat) (q : List (Sl ByteArray × AV)) (k r : Int) (t : List (Sl ByteArray)) (h : Heap), i + n = q.length → q.length ≤ 4294967296 → Hold B h (l ++ D2 x (some q)) → mkLS ((q.drop i).map Prod.fst) k = some (r, t) →
    ∃ h' q', (obind (loopP hm0_laws_markStringSS xm0_laws_markStringSS (lb0_laws_markStringSS ev_laws_markStringSS) [x, iv k, y2, y3, y4, iv (i : Nat), .top, .top, .top, .top, .top, .top, .top, .top, .top, .top, .top, .top, y18] h) fun r => lk0_laws_markStringSS ev_laws_markStringSS r.1 r.2.1 r.2.2) = some (iv r, h') ∧ q'.map Prod.fst = (q.take i).map Prod.fst ++ t ∧ Hold B h' (l ++ D2 x (some q')) := by
  intro n
  induction n with
  | zero =>
    intro i q k r t h hi hq O hm
    have e : q.drop i = [] := List.drop_eq_nil_of_le (by omega)
    rw [e] at hm
    cases hm
    have hl : aLenK .slice x = some (iv (q.length : Nat)) := by simpa [pj] using D2.len O
    have : ¬ i < q.length := by omega
    refine ⟨h, q, ?_, ?_, O⟩
    · rw [loopP.eq_1]
      simp [e_lb0_laws_markStringSS, restr, e_lk0x0_laws_markStringSS, hl, this]
    · rw [List.take_of_length_le (by omega), List.append_nil]
  | succ n ih =>
    intro i q k r t h hi hq O hm
    have hlt : i < q.length := by omega
    obtain ⟨⟨a, y⟩, hy⟩ : ∃ p, q[i]? = some p := ⟨q[i], List.getElem?_eq_getElem hlt⟩
    have hd : q.drop i = (a, y) :: q.drop (i + 1) := by
      rw [List.drop_eq_getElem_cons hlt]
      rw [List.getElem?_eq_getElem hlt] at hy
      rw [Option.some.inj hy]
    rw [hd] at hm
    change obind (t_laws_markStringS a k) (fun p => obind (mkLS ((q.drop (i + 1)).map Prod.fst) p.1) fun q => some (q.1, p.2 :: q.2)) = some (r, t) at hm
    cases e1 : t_laws_markStringS a k with
    | none => rw [e1] at hm; cases hm
    | some p =>
      obtain ⟨k1, a'⟩ := p
      rw [e1, obind_sm] at hm
      cases e2 : mkLS ((q.drop (i + 1)).map Prod.fst) k1 with
      | none => rw [e2] at hm; cases hm
      | some p2 =>
        obtain ⟨r2, t2⟩ := p2
        rw [e2] at hm
        cases hm
        have hl : aLenK .slice x = some (iv (q.length : Nat)) := by simpa [pj] using D2.len O
        have hy' : ((some q : PS (Sl ByteArray)).getD [])[i]? = some (a, y) := hy
        have hat := D2.at (A := Sl ByteArray) (l := l) (x := x) hy'
        obtain ⟨o, hx, ho⟩ := D2.head O
        have e3 : aIndexAddr 1 x (iv ((i : Nat) : Int)) h = some (elp x i 0) := by
          subst hx
          simp only [aIndexAddr, ho, List.length_map]
          rw [if_pos ⟨trivial, rfl⟩, idx_lt hlt]
          rfl
        have e4 : aLoad false 1 (elp x i 0) h = some y := by
          rw [D2.ld O hy' false 1 0]
          simp [Inn.row, cut]
        obtain ⟨h1, e5, O1⟩ := O.mark _ hat mk_laws_markStringS e1
        have hset : (l ++ D2 x (some q)).set (l.length + 1 + i) (y, obS a') = l ++ D2 (A := Sl ByteArray) x (some (q.set i (a', y))) := by
          rw [List.set_append_right _ _ (by omega)]
          have : l.length + 1 + i - l.length = i + 1 := by omega
          rw [this]
          have hr : (q.set i (a', y)).map (fun p => Inn.row (A := Sl ByteArray) p.1 p.2) = q.map fun p => Inn.row (A := Sl ByteArray) p.1 p.2 := by
            rw [List.map_set]
            apply List.ext_getElem?
            intro j
            by_cases ej : i = j
            · subst ej
              rw [List.getElem?_set_self (by simpa using hlt), List.getElem?_map, hy]
              rfl
            · rw [List.getElem?_set_ne ej]
          simp only [D2, List.set_cons_succ, hr, List.map_set]
          rfl
        have O2 : Hold B h1 (l ++ D2 (A := Sl ByteArray) x (some (q.set i (a', y)))) := by
          rw [← hset]
          exact O1
        have ec : aCall (ev_laws_markStringSS n_laws_markStringS) [y, iv k] h = some (iv k1, h1) := by
          have : ev_laws_markStringSS n_laws_markStringS = .gen (denFn Try.prog ev_laws_markStringS n_laws_markStringS) := by simp [ev_laws_markStringSS, envL]
          rw [this]
          exact e5
        have hdrop : (q.set i (a', y)).drop (i + 1) = q.drop (i + 1) := by
          rw [List.drop_set_of_lt (by omega)]
        obtain ⟨h2, q2, f1, f2, f3⟩ := ih (i + 1) (q.set i (a', y)) k1 r2 t2 h1 (by simp; omega) (by simpa using hq) O2 (by rw [hdrop]; exact e2)
        refine ⟨h2, q2, ?_, ?_, f3⟩
        · rw [loopP.eq_1]
          have hw : wr ((i : Int) + 1) = ((i + 1 : Nat) : Int) := by rw [wr_id (by omega) (by omega)]; omega
          simp [-Int.natCast_add, e_lb0_laws_markStringSS, restr, hl, hlt, e3, e4, ec, hw]
          simpa [-Int.natCast_add] using f1
        · rw [f2, List.take_add_one, List.map_append]
          have : (q.set i (a', y))[i]? = some (a', y) := List.getElem?_set_self (by simpa using hlt)
          rw [this, List.take_set_of_le (Nat.le_refl _)]
          simp
theorem mk_laws_markStringSS : MarkDOK (denFn Try.prog ev_laws_markStringSS n_laws_markStringSS) t_laws_markStringSS := by
  intro B h l x ps k r s' O hm
  unfold t_laws_markStringSS at hm
  cases c : decide (((pj ps).getD []).length ≤ 4294967296) with
  | false => rw [c] at hm; cases hm
  | true =>
    rw [c, cond_true] at hm
    have hc := of_decide_eq_true c
    cases ps with
    | none =>
      cases hm
      have hx := D2.nil O
      subst hx
      refine ⟨h, none, ?_, rfl, O⟩
      rw [e_laws_markStringSS, loopP.eq_1]
      simp [e_lb0_laws_markStringSS, e_lk0x0_laws_markStringSS, restr]
    | some q =>
      change obind (mkLS (q.map Prod.fst) k) (fun q => some (q.1, some q.2)) = some (r, s') at hm
      cases e2 : mkLS (q.map Prod.fst) k with
      | none => rw [e2] at hm; cases hm
      | some p2 =>
        obtain ⟨r2, t2⟩ := p2
        rw [e2] at hm
        cases hm
        obtain ⟨h1, q1, f1, f2, f3⟩ := lp_laws_markStringSS (y2 := und) (y3 := und) (y4 := iv 0) (y18 := und) q.length 0 q k r2 t2 h (by omega) (by simpa [pj] using hc) O e2
        refine ⟨h1, some q1, ?_, by simpa [pj] using f2, f3⟩
        rw [e_laws_markStringSS]
        exact f1

theorem Hold.rot4 {B : Base} {h : Heap} {l d1 d2 d3 d4 n : List Ent} (O : Hold B h (l ++ d1 ++ d2 ++ d3 ++ d4 ++ n)) : Hold B h (l ++ n ++ d1 ++ d2 ++ d3 ++ d4) := O.perm (by
  rw [List.append_assoc, List.append_assoc, List.append_assoc, List.append_assoc, List.append_assoc, List.append_assoc, List.append_assoc, List.append_assoc]
  refine List.Perm.append_left l ?_
  rw [← List.append_assoc d3 d4 n, ← List.append_assoc d2 (d3 ++ d4) n, ← List.append_assoc d1 (d2 ++ (d3 ++ d4)) n]
  exact List.perm_append_comm)
theorem Hold.selD4 {B : Base} {h : Heap} {l l' d1 d2 d3 d4 : List Ent} (O : Hold B h (l ++ d1 ++ d2 ++ d3 ++ d4)) (js : List Nat) (hj : js.Nodup) (e : l' = js.filterMap (l[·]?)) : Hold B h (l' ++ d1 ++ d2 ++ d3 ++ d4) := by
  rw [List.append_assoc, List.append_assoc, List.append_assoc] at O ⊢
  exact O.selD js hj e

def t_laws_FnExactCountModel (aSentences_ : Sl (Sl ByteArray)) (aScale_ : Int) (aOther_ : Int) : Option Bool :=
  obind (t_laws_szStringSS aSentences_ 1048576) fun c1 =>
  bif decide (c1 < 0) then
    some true
  else
    obind (t_laws_toStringSS aSentences_) fun c3 =>
    obind (t_spec_CountModel c3 aScale_ aOther_) fun c10 =>
    obind (t_laws_toStringSS aSentences_) fun c21 =>
    obind (t_impl_CountModel c21 aScale_ aOther_) fun c28 =>
    obind (t_laws_eqModel c28.1 c10.1) fun c39 =>
    obind (bif !c39 then some false else (some (!decide (c28.2 = c10.2)))) fun c41 =>
    bif (bif !c39 then true else c41) then
      some false
    else
      obind (t_laws_toStringSS aSentences_) fun c43 =>
      obind (t_laws_eqStringSS c21 c43) fun c50 =>
      bif !c50 then
        some false
      else
        obind (t_laws_markStringSS c21 1) fun (r52, w53) =>
        obind (bif decide (r52 < 0) then some false else (obind (t_laws_eqModel c28.1 c10.1) fun c59 => some (!c59))) fun c60 =>
        obind (bif (bif decide (r52 < 0) then true else c60) then some false else (some (!decide (c28.2 = c10.2)))) fun c62 =>
        bif (bif (bif decide (r52 < 0) then true else c60) then true else c62) then
          some false
        else
          obind (t_laws_markBigramS c28.1.bigrams 1) fun (r64, w65) =>
          obind (t_laws_heldModel (⟨c28.1.default, w65⟩ : Model) 1) fun c68 =>
          bif decide (c68 < 0) then
            some false
          else
            bif !decide (c68 = r64) then
              some false
            else
              obind (t_laws_toStringSS aSentences_) fun c71 =>
              obind (t_impl_CountModel c71 aScale_ aOther_) fun c78 =>
              obind (t_laws_eqModel c78.1 c10.1) fun c89 =>
              obind (bif !c89 then some false else (some (!decide (c78.2 = c10.2)))) fun c91 =>
              bif (bif !c89 then true else c91) then
                some false
              else
                obind (t_laws_heldModel (⟨c28.1.default, w65⟩ : Model) 1) fun c93 =>
                bif decide (c93 < 0) then
                  some false
                else
                  bif !decide (c93 = r64) then
                    some false
                  else
                    some true

theorem ts_laws_FnExactCountModel (env : Nat → Contract) (he_impl_CountModel : env n_impl_CountModel = .pure (C3 (fun c : Model × Int => AV.tup [AV.agg [iv c.1.default, rS c.1.bigrams], enc c.2]) t_impl_CountModel)) (he_laws_eqModel : env n_laws_eqModel = .pure (C2 (fun c : Bool => enc c) t_laws_eqModel)) (he_laws_eqStringSS : env n_laws_eqStringSS = .pure (C2 (fun c : Bool => enc c) t_laws_eqStringSS)) (he_laws_heldModel : env n_laws_heldModel = .pure (C2 (fun c : Int => enc c) t_laws_heldModel)) (he_laws_markModel : env n_laws_markModel = .gen (denFn Try.prog ev_laws_markModel n_laws_markModel)) (he_laws_markStringSS : env n_laws_markStringSS = .gen (denFn Try.prog ev_laws_markStringSS n_laws_markStringSS)) (he_laws_szStringSS : env n_laws_szStringSS = .pure (C2 (fun c : Int => enc c) t_laws_szStringSS)) (he_laws_toStringSS : env n_laws_toStringSS = .pure (C1 (fun c : (Sl (Sl ByteArray)) => rD c) t_laws_toStringSS)) (he_spec_CountModel : env n_spec_CountModel = .pure (C3 (fun c : Model × Int => AV.tup [AV.agg [iv c.1.default, rS c.1.bigrams], enc c.2]) t_spec_CountModel)) (aSentences_ : Sl (Sl ByteArray)) (aScale_ : Int) (aOther_ : Int) : Sim (denFn Try.prog env n_laws_FnExactCountModel [Sl.enc aSentences_, iv aScale_, iv aOther_] []) (t_laws_FnExactCountModel aSentences_ aScale_ aOther_) fun c p => release p.2 depth p.1 = some ((fun c : Bool => enc c) c) := by
  have O := Hold.nil []
  generalize hB : (⟨[], []⟩ : Base) = B at O
  clear hB
  rw [e_laws_FnExactCountModel]
  unfold t_laws_FnExactCountModel
  refine sim_call2 he_laws_szStringSS (snapD_enc _ _) (snapD_int _ _) (fun c1 => ?_)
  refine sim_let2 (hand_plain (by rfl) _ _) ?_
  refine sim_let (v := bv (decide (c1 < 0))) (aBin_lss _ _) ?_
  refine sim_cond (fun c2 => ?_) (fun c2 => ?_)
  · exact sim_ret (release_plain (by rfl) _)
  · refine sim_call1 he_laws_toStringSS (snapD_enc _ _) (fun c3 => ?_)
    refine sim_handN (l := []) (A := (Sl ByteArray)) O (fun x5 ps8 h6 hp9 O7 => ?_)
    refine sim_call3 he_spec_CountModel ((D2.snapD (l := []) (x := x5) (ps := ps8) (A := (Sl ByteArray)) O7 hp9).2) (snapD_int _ _) (snapD_int _ _) (fun c10 => ?_)
    refine sim_hand1 O7 (c10.1.bigrams : Sl Bigram) (fun z1 => AV.tup [AV.agg [iv c10.1.default, z1], iv c10.2]) (by intro b; simp only [mat_tup, mat_aggD, mat_agg, matLc, matLn, mat_iv, mat_bv, mat_sv, mat_bt, mat_nilS, mat_rS, List.append_nil, List.nil_append, List.length_nil, Nat.add_zero]) (by simp only [noF_tup, noF_aggD, noF_agg, noF_iv, noF_bv, noF_sv, noF_bt, noF_nilS, noF_rS, List.all_cons, List.all_nil, Bool.and_self]) (fun x12 h13 O14 => ?_)
    replace O14 : Hold B h13 ([(x12, obS (c10.1.bigrams : Sl Bigram))] ++ D2 (A := (Sl ByteArray)) x5 ps8) := Hold.rot O14
    refine sim_let (v := AV.agg [iv c10.1.default, x12]) rfl ?_
    refine sim_let (v := iv c10.2) rfl ?_
    refine sim_box O14 (cs := [iv 0, nilS]) (by first | rfl | simp) (fun o15 h16 O17 => ?_)
    replace O17 : Hold B h16 ([(x12, obS (c10.1.bigrams : Sl Bigram)), (AV.ptr o15 1 0 0, .pt 2 [iv 0, nilS])] ++ D2 (A := (Sl ByteArray)) x5 ps8) := Hold.rot O17
    refine sim_store O17 1 (cs' := [iv c10.1.default, x12]) rfl (by first | rfl | simp [(O17.one (A := Bigram) (s := c10.1.bigrams) 0 rfl).1, (O17.one (A := Bigram) (s := c10.1.bigrams) 0 rfl).2]) (by simp) (by first | rfl | simp [(O17.one (A := Bigram) (s := c10.1.bigrams) 0 rfl).1, (O17.one (A := Bigram) (s := c10.1.bigrams) 0 rfl).2]) (by first | rfl | simp [splice, (O17.one (A := Bigram) (s := c10.1.bigrams) 0 rfl).1, (O17.one (A := Bigram) (s := c10.1.bigrams) 0 rfl).2]) (fun h19 O20 => ?_)
    replace O20 : Hold B h19 ([(x12, obS (c10.1.bigrams : Sl Bigram)), (AV.ptr o15 1 0 0, .pt 2 [iv c10.1.default, x12])] ++ D2 (A := (Sl ByteArray)) x5 ps8) := O20
    refine sim_call1 he_laws_toStringSS (snapD_enc _ _) (fun c21 => ?_)
    refine sim_handN (l := ([(x12, obS (c10.1.bigrams : Sl Bigram)), (AV.ptr o15 1 0 0, .pt 2 [iv c10.1.default, x12])] ++ D2 (A := (Sl ByteArray)) x5 ps8)) (A := (Sl ByteArray)) O20 (fun x23 ps26 h24 hp27 O25 => ?_)
    refine sim_call3 he_impl_CountModel ((D2.snapD (l := ([(x12, obS (c10.1.bigrams : Sl Bigram)), (AV.ptr o15 1 0 0, .pt 2 [iv c10.1.default, x12])] ++ D2 (A := (Sl ByteArray)) x5 ps8)) (x := x23) (ps := ps26) (A := (Sl ByteArray)) O25 hp27).2) (snapD_int _ _) (snapD_int _ _) (fun c28 => ?_)
    refine sim_hand1 O25 (c28.1.bigrams : Sl Bigram) (fun z1 => AV.tup [AV.agg [iv c28.1.default, z1], iv c28.2]) (by intro b; simp only [mat_tup, mat_aggD, mat_agg, matLc, matLn, mat_iv, mat_bv, mat_sv, mat_bt, mat_nilS, mat_rS, List.append_nil, List.nil_append, List.length_nil, Nat.add_zero]) (by simp only [noF_tup, noF_aggD, noF_agg, noF_iv, noF_bv, noF_sv, noF_bt, noF_nilS, noF_rS, List.all_cons, List.all_nil, Bool.and_self]) (fun x30 h31 O32 => ?_)
    replace O32 : Hold B h31 ([(x12, obS (c10.1.bigrams : Sl Bigram)), (AV.ptr o15 1 0 0, .pt 2 [iv c10.1.default, x12]), (x30, obS (c28.1.bigrams : Sl Bigram))] ++ D2 (A := (Sl ByteArray)) x5 ps8 ++ D2 (A := (Sl ByteArray)) x23 ps26) := Hold.rot2 O32
    refine sim_let (v := AV.agg [iv c28.1.default, x30]) rfl ?_
    refine sim_let (v := iv c28.2) rfl ?_
    refine sim_box O32 (cs := [iv 0, nilS]) (by first | rfl | simp) (fun o33 h34 O35 => ?_)
    replace O35 : Hold B h34 ([(x12, obS (c10.1.bigrams : Sl Bigram)), (AV.ptr o15 1 0 0, .pt 2 [iv c10.1.default, x12]), (x30, obS (c28.1.bigrams : Sl Bigram)), (AV.ptr o33 1 0 0, .pt 2 [iv 0, nilS])] ++ D2 (A := (Sl ByteArray)) x5 ps8 ++ D2 (A := (Sl ByteArray)) x23 ps26) := Hold.rot2 O35
    refine sim_store O35 3 (cs' := [iv c28.1.default, x30]) rfl (by first | rfl | simp [(O35.one (A := Bigram) (s := c28.1.bigrams) 2 rfl).1, (O35.one (A := Bigram) (s := c28.1.bigrams) 2 rfl).2]) (by simp) (by first | rfl | simp [(O35.one (A := Bigram) (s := c28.1.bigrams) 2 rfl).1, (O35.one (A := Bigram) (s := c28.1.bigrams) 2 rfl).2]) (by first | rfl | simp [splice, (O35.one (A := Bigram) (s := c28.1.bigrams) 2 rfl).1, (O35.one (A := Bigram) (s := c28.1.bigrams) 2 rfl).2]) (fun h37 O38 => ?_)
    replace O38 : Hold B h37 ([(x12, obS (c10.1.bigrams : Sl Bigram)), (AV.ptr o15 1 0 0, .pt 2 [iv c10.1.default, x12]), (x30, obS (c28.1.bigrams : Sl Bigram)), (AV.ptr o33 1 0 0, .pt 2 [iv c28.1.default, x30])] ++ D2 (A := (Sl ByteArray)) x5 ps8 ++ D2 (A := (Sl ByteArray)) x23 ps26) := O38
    refine sim_let (v := AV.agg [iv c28.1.default, x30]) (O38.ld 3 rfl true 2 0) ?_
    refine sim_let (v := AV.agg [iv c10.1.default, x12]) (O38.ld 1 rfl true 2 0) ?_
    refine sim_call2 he_laws_eqModel (snapD_own h37 c28.1 rfl (by simp [omap, O38.snap7 (A := Bigram) (s := c28.1.bigrams) 2 rfl])) (snapD_own h37 c10.1 rfl (by simp [omap, O38.snap7 (A := Bigram) (s := c10.1.bigrams) 0 rfl])) (fun c39 => ?_)
    refine sim_let2 (hand_plain (by rfl) _ _) ?_
    refine sim_let (v := bv (!c39)) (aUn_not _) ?_
    refine sim_guardF (e := bv) (fun hb40 => ?_) (fun c41 => ?_)
    · refine sim_let (v := bv (!decide (c28.2 = c10.2))) (aCmp_ne _ _) ?_
      exact sim_ret rfl
    · refine sim_let (v := bv (bif !c39 then true else c41)) (pick_b' _ _ _) ?_
      refine sim_cond (fun c42 => ?_) (fun c42 => ?_)
      · exact sim_ret (release_plain (by rfl) _)
      · refine sim_call1 he_laws_toStringSS (snapD_enc _ _) (fun c43 => ?_)
        refine sim_handN (l := ([(x12, obS (c10.1.bigrams : Sl Bigram)), (AV.ptr o15 1 0 0, .pt 2 [iv c10.1.default, x12]), (x30, obS (c28.1.bigrams : Sl Bigram)), (AV.ptr o33 1 0 0, .pt 2 [iv c28.1.default, x30])] ++ D2 (A := (Sl ByteArray)) x5 ps8 ++ D2 (A := (Sl ByteArray)) x23 ps26)) (A := (Sl ByteArray)) O38 (fun x45 ps48 h46 hp49 O47 => ?_)
        refine sim_call2 he_laws_eqStringSS ((D2.snapD (l := ([(x12, obS (c10.1.bigrams : Sl Bigram)), (AV.ptr o15 1 0 0, .pt 2 [iv c10.1.default, x12]), (x30, obS (c28.1.bigrams : Sl Bigram)), (AV.ptr o33 1 0 0, .pt 2 [iv c28.1.default, x30])] ++ D2 (A := (Sl ByteArray)) x5 ps8 ++ D2 (A := (Sl ByteArray)) x45 ps48)) (x := x23) (ps := ps26) (A := (Sl ByteArray)) (Hold.sw31 O47) hp27).2) ((D2.snapD (l := ([(x12, obS (c10.1.bigrams : Sl Bigram)), (AV.ptr o15 1 0 0, .pt 2 [iv c10.1.default, x12]), (x30, obS (c28.1.bigrams : Sl Bigram)), (AV.ptr o33 1 0 0, .pt 2 [iv c28.1.default, x30])] ++ D2 (A := (Sl ByteArray)) x5 ps8 ++ D2 (A := (Sl ByteArray)) x23 ps26)) (x := x45) (ps := ps48) (A := (Sl ByteArray)) O47 hp49).2) (fun c50 => ?_)
        refine sim_let2 (hand_plain (by rfl) _ _) ?_
        refine sim_let (v := bv (!c50)) (aUn_not _) ?_
        refine sim_cond (fun c51 => ?_) (fun c51 => ?_)
        · exact sim_ret (release_plain (by rfl) _)
        · refine sim_markD (l := ([(x12, obS (c10.1.bigrams : Sl Bigram)), (AV.ptr o15 1 0 0, .pt 2 [iv c10.1.default, x12]), (x30, obS (c28.1.bigrams : Sl Bigram)), (AV.ptr o33 1 0 0, .pt 2 [iv c28.1.default, x30])] ++ D2 (A := (Sl ByteArray)) x5 ps8 ++ D2 (A := (Sl ByteArray)) x45 ps48)) (x := x23) (ps := ps26) (A := (Sl ByteArray)) (Hold.sw31 O47) hp27 he_laws_markStringSS mk_laws_markStringSS (fun r52 w53 ps56 h54 hp57 O55 => ?_)
          refine sim_let (v := bv (decide (r52 < 0))) (aBin_lss _ _) ?_
          refine sim_guardF (e := bv) (fun hb58 => ?_) (fun c60 => ?_)
          · refine sim_let (v := AV.agg [iv c28.1.default, x30]) (O55.ld 3 rfl true 2 0) ?_
            refine sim_let (v := AV.agg [iv c10.1.default, x12]) (O55.ld 1 rfl true 2 0) ?_
            refine sim_call2 he_laws_eqModel (snapD_own h54 c28.1 rfl (by simp [omap, O55.snap7 (A := Bigram) (s := c28.1.bigrams) 2 rfl])) (snapD_own h54 c10.1 rfl (by simp [omap, O55.snap7 (A := Bigram) (s := c10.1.bigrams) 0 rfl])) (fun c59 => ?_)
            refine sim_let2 (hand_plain (by rfl) _ _) ?_
            refine sim_let (v := bv (!c59)) (aUn_not _) ?_
            exact sim_ret rfl
          · refine sim_let (v := bv (bif decide (r52 < 0) then true else c60)) (pick_b' _ _ _) ?_
            refine sim_guardF (e := bv) (fun hb61 => ?_) (fun c62 => ?_)
            · refine sim_let (v := bv (!decide (c28.2 = c10.2))) (aCmp_ne _ _) ?_
              exact sim_ret rfl
            · refine sim_let (v := bv (bif (bif decide (r52 < 0) then true else c60) then true else c62)) (pick_b' _ _ _) ?_
              refine sim_cond (fun c63 => ?_) (fun c63 => ?_)
              · exact sim_ret (release_plain (by rfl) _)
              · refine sim_let (v := AV.agg [iv c28.1.default, x30]) (O55.ld 3 rfl true 2 0) ?_
                refine sim_markG (A := Bigram) (w := 2) (j := 1) O55 2 rfl he_laws_markModel mk_laws_markModel (by simp [(O55.one (A := Bigram) (s := c28.1.bigrams) 2 rfl).2]) rfl rfl (fun r64 w65 h66 O67 => ?_)
                replace O67 : Hold B h66 ([(x12, obS (c10.1.bigrams : Sl Bigram)), (AV.ptr o15 1 0 0, .pt 2 [iv c10.1.default, x12]), (x30, obS (w65 : Sl Bigram)), (AV.ptr o33 1 0 0, .pt 2 [iv c28.1.default, x30])] ++ D2 (A := (Sl ByteArray)) x5 ps8 ++ D2 (A := (Sl ByteArray)) x45 ps48 ++ D2 (A := (Sl ByteArray)) x23 ps56) := O67
                refine sim_let (v := AV.agg [iv c28.1.default, x30]) (O67.ld 3 rfl true 2 0) ?_
                refine sim_call2 he_laws_heldModel (snapD_own h66 (⟨c28.1.default, w65⟩ : Model) rfl (by simp [omap, O67.snap7 (A := Bigram) (s := w65) 2 rfl])) (snapD_int _ _) (fun c68 => ?_)
                refine sim_let2 (hand_plain (by rfl) _ _) ?_
                refine sim_let (v := bv (decide (c68 < 0))) (aBin_lss _ _) ?_
                refine sim_cond (fun c69 => ?_) (fun c69 => ?_)
                · exact sim_ret (release_plain (by rfl) _)
                · refine sim_let (v := bv (!decide (c68 = r64))) (aCmp_ne _ _) ?_
                  refine sim_cond (fun c70 => ?_) (fun c70 => ?_)
                  · exact sim_ret (release_plain (by rfl) _)
                  · refine sim_call1 he_laws_toStringSS (snapD_enc _ _) (fun c71 => ?_)
                    refine sim_handN (l := ([(x12, obS (c10.1.bigrams : Sl Bigram)), (AV.ptr o15 1 0 0, .pt 2 [iv c10.1.default, x12]), (x30, obS (w65 : Sl Bigram)), (AV.ptr o33 1 0 0, .pt 2 [iv c28.1.default, x30])] ++ D2 (A := (Sl ByteArray)) x5 ps8 ++ D2 (A := (Sl ByteArray)) x45 ps48 ++ D2 (A := (Sl ByteArray)) x23 ps56)) (A := (Sl ByteArray)) O67 (fun x73 ps76 h74 hp77 O75 => ?_)
                    refine sim_call3 he_impl_CountModel ((D2.snapD (l := ([(x12, obS (c10.1.bigrams : Sl Bigram)), (AV.ptr o15 1 0 0, .pt 2 [iv c10.1.default, x12]), (x30, obS (w65 : Sl Bigram)), (AV.ptr o33 1 0 0, .pt 2 [iv c28.1.default, x30])] ++ D2 (A := (Sl ByteArray)) x5 ps8 ++ D2 (A := (Sl ByteArray)) x45 ps48 ++ D2 (A := (Sl ByteArray)) x23 ps56)) (x := x73) (ps := ps76) (A := (Sl ByteArray)) O75 hp77).2) (snapD_int _ _) (snapD_int _ _) (fun c78 => ?_)
                    refine sim_hand1 O75 (c78.1.bigrams : Sl Bigram) (fun z1 => AV.tup [AV.agg [iv c78.1.default, z1], iv c78.2]) (by intro b; simp only [mat_tup, mat_aggD, mat_agg, matLc, matLn, mat_iv, mat_bv, mat_sv, mat_bt, mat_nilS, mat_rS, List.append_nil, List.nil_append, List.length_nil, Nat.add_zero]) (by simp only [noF_tup, noF_aggD, noF_agg, noF_iv, noF_bv, noF_sv, noF_bt, noF_nilS, noF_rS, List.all_cons, List.all_nil, Bool.and_self]) (fun x80 h81 O82 => ?_)
                    replace O82 : Hold B h81 ([(x12, obS (c10.1.bigrams : Sl Bigram)), (AV.ptr o15 1 0 0, .pt 2 [iv c10.1.default, x12]), (x30, obS (w65 : Sl Bigram)), (AV.ptr o33 1 0 0, .pt 2 [iv c28.1.default, x30]), (x80, obS (c78.1.bigrams : Sl Bigram))] ++ D2 (A := (Sl ByteArray)) x5 ps8 ++ D2 (A := (Sl ByteArray)) x45 ps48 ++ D2 (A := (Sl ByteArray)) x23 ps56 ++ D2 (A := (Sl ByteArray)) x73 ps76) := Hold.rot4 O82
                    refine sim_let (v := AV.agg [iv c78.1.default, x80]) rfl ?_
                    refine sim_let (v := iv c78.2) rfl ?_
                    refine sim_box O82 (cs := [iv 0, nilS]) (by first | rfl | simp) (fun o83 h84 O85 => ?_)
                    replace O85 : Hold B h84 ([(x12, obS (c10.1.bigrams : Sl Bigram)), (AV.ptr o15 1 0 0, .pt 2 [iv c10.1.default, x12]), (x30, obS (w65 : Sl Bigram)), (AV.ptr o33 1 0 0, .pt 2 [iv c28.1.default, x30]), (x80, obS (c78.1.bigrams : Sl Bigram)), (AV.ptr o83 1 0 0, .pt 2 [iv 0, nilS])] ++ D2 (A := (Sl ByteArray)) x5 ps8 ++ D2 (A := (Sl ByteArray)) x45 ps48 ++ D2 (A := (Sl ByteArray)) x23 ps56 ++ D2 (A := (Sl ByteArray)) x73 ps76) := Hold.rot4 O85
                    refine sim_store O85 5 (cs' := [iv c78.1.default, x80]) rfl (by first | rfl | simp [(O85.one (A := Bigram) (s := c78.1.bigrams) 4 rfl).1, (O85.one (A := Bigram) (s := c78.1.bigrams) 4 rfl).2]) (by simp) (by first | rfl | simp [(O85.one (A := Bigram) (s := c78.1.bigrams) 4 rfl).1, (O85.one (A := Bigram) (s := c78.1.bigrams) 4 rfl).2]) (by first | rfl | simp [splice, (O85.one (A := Bigram) (s := c78.1.bigrams) 4 rfl).1, (O85.one (A := Bigram) (s := c78.1.bigrams) 4 rfl).2]) (fun h87 O88 => ?_)
                    replace O88 : Hold B h87 ([(x12, obS (c10.1.bigrams : Sl Bigram)), (AV.ptr o15 1 0 0, .pt 2 [iv c10.1.default, x12]), (x30, obS (w65 : Sl Bigram)), (AV.ptr o33 1 0 0, .pt 2 [iv c28.1.default, x30]), (x80, obS (c78.1.bigrams : Sl Bigram)), (AV.ptr o83 1 0 0, .pt 2 [iv c78.1.default, x80])] ++ D2 (A := (Sl ByteArray)) x5 ps8 ++ D2 (A := (Sl ByteArray)) x45 ps48 ++ D2 (A := (Sl ByteArray)) x23 ps56 ++ D2 (A := (Sl ByteArray)) x73 ps76) := O88
                    refine sim_let (v := AV.agg [iv c78.1.default, x80]) (O88.ld 5 rfl true 2 0) ?_
                    refine sim_let (v := AV.agg [iv c10.1.default, x12]) (O88.ld 1 rfl true 2 0) ?_
                    refine sim_call2 he_laws_eqModel (snapD_own h87 c78.1 rfl (by simp [omap, O88.snap7 (A := Bigram) (s := c78.1.bigrams) 4 rfl])) (snapD_own h87 c10.1 rfl (by simp [omap, O88.snap7 (A := Bigram) (s := c10.1.bigrams) 0 rfl])) (fun c89 => ?_)
                    refine sim_let2 (hand_plain (by rfl) _ _) ?_
                    refine sim_let (v := bv (!c89)) (aUn_not _) ?_
                    refine sim_guardF (e := bv) (fun hb90 => ?_) (fun c91 => ?_)
                    · refine sim_let (v := bv (!decide (c78.2 = c10.2))) (aCmp_ne _ _) ?_
                      exact sim_ret rfl
                    · refine sim_let (v := bv (bif !c89 then true else c91)) (pick_b' _ _ _) ?_
                      refine sim_cond (fun c92 => ?_) (fun c92 => ?_)
                      · exact sim_ret (release_plain (by rfl) _)
                      · refine sim_let (v := AV.agg [iv c28.1.default, x30]) (O88.ld 3 rfl true 2 0) ?_
                        refine sim_call2 he_laws_heldModel (snapD_own h87 (⟨c28.1.default, w65⟩ : Model) rfl (by simp [omap, O88.snap7 (A := Bigram) (s := w65) 2 rfl])) (snapD_int _ _) (fun c93 => ?_)
                        refine sim_let2 (hand_plain (by rfl) _ _) ?_
                        refine sim_let (v := bv (decide (c93 < 0))) (aBin_lss _ _) ?_
                        refine sim_cond (fun c94 => ?_) (fun c94 => ?_)
                        · exact sim_ret (release_plain (by rfl) _)
                        · refine sim_let (v := bv (!decide (c93 = r64))) (aCmp_ne _ _) ?_
                          refine sim_cond (fun c95 => ?_) (fun c95 => ?_)
                          · exact sim_ret (release_plain (by rfl) _)
                          · exact sim_ret (release_plain (by rfl) _)
theorem tt_laws_FnExactCountModel : PureOK Try.prog n_laws_FnExactCountModel (C3 (fun c : Bool => enc c) t_laws_FnExactCountModel) := pureC3 (Econs tt_impl_CountModel (Econs tt_laws_eqModel (Econs tt_laws_eqStringSS (Econs tt_laws_heldModel (EconsG (gen_of_den eo_laws_markModel mixed hb_laws_markModel) (EconsG (gen_of_den eo_laws_markStringSS mixed hb_laws_markStringSS) (Econs tt_laws_szStringSS (Econs tt_laws_toStringSS (Econs tt_spec_CountModel E0))))))))) mixed hb_laws_FnExactCountModel fun aSentences_ aScale_ aOther_ => ts_laws_FnExactCountModel _ (by simp [envL]) (by simp [envL]) (by simp [envL]) (by simp [envL]) (by simp [envL]) (by simp [envL]) (by simp [envL]) (by simp [envL]) (by simp [envL]) aSentences_ aScale_ aOther_

/-- The source has been read up to `k` at most. -/
structure SK (s : l00Src) (k : Int) : Prop where
  lo : 0 ≤ s.pos
  hi : s.pos ≤ k

theorem SK.mono {s : l00Src} {k k' : Int} (h : SK s k) (hk : k ≤ k') : SK s k' := ⟨h.lo, by have := h.hi; omega⟩

theorem wr_succ {k n : Nat} (h : k < n) (hn : n ≤ 4294967296) : wr ((k : Int) + 1) = ((k + 1 : Nat) : Int) := by
  rw [wr_id (by omega) (by omega)]
  omega

theorem get_lt {A : Type} {l : List A} {k : Nat} {a : A} (h : l[k]? = some a) : k < l.length := (List.getElem?_eq_some_iff.1 h).1

/-- A point that is one; the points of a stroke that is one. -/
structure PtV (p : Point) : Prop where
  x0 : 0 ≤ p.x
  x1 : p.x ≤ 4095
  y0 : 0 ≤ p.y
  y1 : p.y ≤ 4095
  t0 : 0 ≤ p.t
  t1 : p.t ≤ 3600000

structure StV (l : List Point) : Prop where
  pts : ∀ p ∈ l, PtV p
  inc : ∀ (k : Nat) p q, l[k]? = some p → l[k + 1]? = some q → p.t < q.t
  n1 : 1 ≤ l.length
  n2 : l.length ≤ 60

/-- Points of a bounded size. -/
structure PtB (p : Point) : Prop where
  x0 : -10000000 ≤ p.x
  x1 : p.x ≤ 10000000
  y0 : -10000000 ≤ p.y
  y1 : p.y ≤ 10000000
  t0 : -10000000 ≤ p.t
  t1 : p.t ≤ 10000000

structure StB (s : Stroke) : Prop where
  n : (s.points.getD []).length ≤ 100
  pts : ∀ p ∈ s.points.getD [], PtB p

theorem PtV.b {p : Point} (h : PtV p) : PtB p := by
  obtain ⟨h1, h2, h3, h4, h5, h6⟩ := h
  exact ⟨by omega, by omega, by omega, by omega, by omega, by omega⟩

theorem StV.b {l : List Point} (h : StV l) : StB ⟨some l⟩ := ⟨Nat.le_trans h.n2 (by omega), fun p hp => (h.pts p hp).b⟩

/-- Ink that is one. -/
structure InkV (L : List Stroke) : Prop where
  st : ∀ s ∈ L, ∃ l, s = ⟨some l⟩ ∧ StV l
  inc : ∀ (k : Nat) l l', L[k]? = some ⟨some l⟩ → L[k + 1]? = some ⟨some l'⟩ → ∀ p ∈ l, ∀ q ∈ l', p.t < q.t
  n : L.length ≤ 16

theorem InkV.b {L : List Stroke} (h : InkV L) : ∀ x ∈ L, StB x := fun x hx => by
  obtain ⟨l, rfl, hl⟩ := h.st x hx
  exact hl.b

theorem firstL_so {A R : Type} {f : Nat → A → Option R} : ∀ {l : List A} {k : Nat} {r : R}, firstL f l k = some r → ∃ i a, f i a = some r
  | [], _, _, h => by cases h
  | b :: l, k, r, h => by
    unfold firstL at h
    cases e : f k b with
    | some r' => rw [e] at h; cases h; exact ⟨k, b, e⟩
    | none => rw [e] at h; exact firstL_so h

theorem StB.le {s : Stroke} (h : StB s) : (s.points.getD []).length ≤ 4294967296 := Nat.le_trans h.n (by omega)

def pt (l : List Point) (i : Nat) : Point := l.getD i ⟨0, 0, 0⟩

/-- One pair lies ahead of another. -/
def Pre (p q i j : Nat) : Prop := (i = p + 1 ∧ j = q + 1) ∨ (i = p + 1 ∧ j = q) ∨ (i = p ∧ j = q + 1)

/-- A path's cost, from the first pair on. -/
inductive Pth (C : Nat → Nat → Int) (R : Nat → Nat → Prop) : Nat → Nat → Int → Prop
  | start : R 0 0 → Pth C R 0 0 (C 0 0)
  | step {p q i j : Nat} {c : Int} : Pth C R p q c → Pre p q i j → R i j → Pth C R i j (c + C i j)

/-- The least cost of the paths to a pair, `B` where there is none. -/
def Opt (B : Int) (C : Nat → Nat → Int) (R : Nat → Nat → Prop) (i j : Nat) (v : Int) : Prop :=
  (v = B ∧ ∀ c, ¬ Pth C R i j c) ∨ (v < B ∧ Pth C R i j v ∧ ∀ c, Pth C R i j c → v ≤ c)

theorem Opt.le {B : Int} {C : Nat → Nat → Int} {R : Nat → Nat → Prop} {i j : Nat} {v : Int} (h : Opt B C R i j v) : v ≤ B := by
  rcases h with ⟨h, _⟩ | ⟨h, _⟩ <;> omega

theorem Pth.mono {C D : Nat → Nat → Int} {R S : Nat → Nat → Prop} {i j : Nat} {c : Int} (h : Pth C R i j c) (hR : ∀ p q, p ≤ i → q ≤ j → R p q → S p q) (hC : ∀ p q, p ≤ i → q ≤ j → C p q = D p q) : Pth D S i j c := by
  induction h with
  | start h =>
    rw [hC 0 0 (Nat.le_refl _) (Nat.le_refl _)]
    exact .start (hR 0 0 (Nat.le_refl _) (Nat.le_refl _) h)
  | @step p q i j c h1 h2 h3 ih =>
    have hle : p ≤ i ∧ q ≤ j := by rcases h2 with h | h | h <;> omega
    rw [hC i j (Nat.le_refl _) (Nat.le_refl _)]
    exact .step (ih (fun a b h4 h5 => hR a b (by omega) (by omega)) (fun a b h4 h5 => hC a b (by omega) (by omega))) h2 (hR i j (Nat.le_refl _) (Nat.le_refl _) h3)

/-- A table's entry. -/
def Val (T : List (Sl Int)) (p q : Nat) (v : Int) : Prop := ∃ row, T[p]? = some (some row) ∧ row[q]? = some v

theorem Val.set {T : List (Sl Int)} {i j p q : Nat} {row : List Int} {v w : Int} (hr : T[i]? = some (some row)) (hj : j < row.length) :
    Val (T.set i (some (row.set j w))) p q v ↔ (p = i ∧ q = j ∧ v = w) ∨ (¬ (p = i ∧ q = j) ∧ Val T p q v) := by
  have hi := get_lt hr
  unfold Val
  constructor
  · rintro ⟨r, h1, h2⟩
    by_cases c : i = p
    · subst c
      rw [List.getElem?_set_self hi] at h1
      cases h1
      by_cases d : j = q
      · subst d
        rw [List.getElem?_set_self hj] at h2
        cases h2
        exact .inl ⟨rfl, rfl, rfl⟩
      · rw [List.getElem?_set_ne d] at h2
        exact .inr ⟨fun h => d h.2.symm, row, hr, h2⟩
    · rw [List.getElem?_set_ne c] at h1
      exact .inr ⟨fun h => c h.1.symm, r, h1, h2⟩
  · rintro (⟨rfl, rfl, rfl⟩ | ⟨hne, r, h1, h2⟩)
    · exact ⟨_, List.getElem?_set_self hi, List.getElem?_set_self hj⟩
    · by_cases c : i = p
      · subst c
        rw [hr] at h1
        cases h1
        have d : j ≠ q := fun h => hne ⟨rfl, h.symm⟩
        exact ⟨_, List.getElem?_set_self hi, by rw [List.getElem?_set_ne d]; exact h2⟩
      · exact ⟨r, by rw [List.getElem?_set_ne c]; exact h1, h2⟩

/-- A path read from its end on, with its cost. -/
inductive Tr (C : Nat → Nat → Int) (R : Nat → Nat → Prop) : Nat → Nat → Int → List Pair → Prop
  | start : R 0 0 → Tr C R 0 0 (C 0 0) [⟨0, 0⟩]
  | step {p q i j : Nat} {c : Int} {L : List Pair} : Tr C R p q c L → Pre p q i j → R i j → Tr C R i j (c + C i j) (⟨(i : Int), (j : Int)⟩ :: L)

theorem Tr.head {C : Nat → Nat → Int} {R : Nat → Nat → Prop} {i j : Nat} {c : Int} {L : List Pair} (h : Tr C R i j c L) : ∃ L', L = ⟨(i : Int), (j : Int)⟩ :: L' := by
  cases h with
  | start h => exact ⟨[], rfl⟩
  | step h1 h2 h3 => exact ⟨_, rfl⟩

def PVal (T : List (Sl Part)) (p q : Nat) (v : Part) : Prop := ∃ row, T[p]? = some (some row) ∧ row[q]? = some v

theorem PVal.set {T : List (Sl Part)} {i j p q : Nat} {row : List Part} {v w : Part} (hr : T[i]? = some (some row)) (hj : j < row.length) :
    PVal (T.set i (some (row.set j w))) p q v ↔ (p = i ∧ q = j ∧ v = w) ∨ (¬ (p = i ∧ q = j) ∧ PVal T p q v) := by
  have hi := get_lt hr
  unfold PVal
  constructor
  · rintro ⟨r, h1, h2⟩
    by_cases c : i = p
    · subst c
      rw [List.getElem?_set_self hi] at h1
      cases h1
      by_cases d : j = q
      · subst d
        rw [List.getElem?_set_self hj] at h2
        cases h2
        exact .inl ⟨rfl, rfl, rfl⟩
      · rw [List.getElem?_set_ne d] at h2
        exact .inr ⟨fun h => d h.2.symm, row, hr, h2⟩
    · rw [List.getElem?_set_ne c] at h1
      exact .inr ⟨fun h => c h.1.symm, r, h1, h2⟩
  · rintro (⟨rfl, rfl, rfl⟩ | ⟨hne, r, h1, h2⟩)
    · exact ⟨_, List.getElem?_set_self hi, List.getElem?_set_self hj⟩
    · by_cases c : i = p
      · subst c
        rw [hr] at h1
        cases h1
        have d : j ≠ q := fun h => hne ⟨rfl, h.symm⟩
        exact ⟨_, List.getElem?_set_self hi, by rw [List.getElem?_set_ne d]; exact h2⟩
      · exact ⟨r, by rw [List.getElem?_set_ne c]; exact h1, h2⟩

def d2 (a b : Point) : Int := (a.x - b.x) * (a.x - b.x) + (a.y - b.y) * (a.y - b.y)

def pbox (p : Point) : Box := ⟨p.x, p.y, p.x, p.y⟩

/-- One box is in another one. -/
structure InB (a b : Box) : Prop where
  x1 : b.x1 ≤ a.x1
  y1 : b.y1 ≤ a.y1
  x2 : a.x2 ≤ b.x2
  y2 : a.y2 ≤ b.y2

theorem InB.refl (a : Box) : InB a a := ⟨Int.le_refl _, Int.le_refl _, Int.le_refl _, Int.le_refl _⟩

theorem InB.trans {a b c : Box} (h : InB a b) (g : InB b c) : InB a c := ⟨Int.le_trans g.x1 h.x1, Int.le_trans g.y1 h.y1, Int.le_trans h.x2 g.x2, Int.le_trans h.y2 g.y2⟩

theorem PtV.box {p : Point} (h : PtV p) : InB (pbox p) ⟨0, 0, 4095, 4095⟩ := ⟨h.x0, h.y0, h.x1, h.y1⟩

def nearQ (n d : Int) : Int := (2 * n + d) / (2 * d)

/-- One coordinate of a place in the normal square: of `u` in a width of `w`, for a side `S`. -/
def nrm1 (w S u : Int) : Int := (255 - w * 255 / S) / 2 + nearQ (u * 255) S

def side (b : Box) : Int := max (max (b.x2 - b.x1) (b.y2 - b.y1)) 1

def nrm (b : Box) (p : Spot) : Spot := ⟨nrm1 (b.x2 - b.x1) (side b) (p.x - b.x1), nrm1 (b.y2 - b.y1) (side b) (p.y - b.y1)⟩

def inQ (b : Box) (p : Spot) : Bool := within p.x b.x1 b.x2 && within p.y b.y1 b.y2

/-- What the places in the square are; the program's and the reference's are alike. -/
def NR (L : List Spot) (b : Box) (q : Sl Spot) (n : Int) : Prop := (n = 0 ∧ validBox b = true ∧ (∀ p ∈ L, inQ b p = true) ∧ q.getD [] = L.map (nrm b)) ∨ (q = none ∧ ((n = 1 ∧ validBox b = false) ∨ (n = 2 ∧ validBox b = true ∧ ∃ p ∈ L, inQ b p = false)))

theorem NR.same {L : List Spot} {b : Box} {q q' : Sl Spot} {n n' : Int} (h : NR L b q n) (h' : NR L b q' n') : n = n' ∧ q.getD [] = q'.getD [] := by
  rcases h with ⟨rfl, h1, h2, h3⟩ | ⟨rfl, ⟨rfl, h1⟩ | ⟨rfl, h1, p, h2, h3⟩⟩ <;> rcases h' with ⟨rfl, g1, g2, g3⟩ | ⟨rfl, ⟨rfl, g1⟩ | ⟨rfl, g1, p', g2, g3⟩⟩
  · exact ⟨rfl, by rw [h3, g3]⟩
  · rw [h1] at g1; cases g1
  · rw [h2 _ g2] at g3; cases g3
  · rw [h1] at g1; cases g1
  · exact ⟨rfl, rfl⟩
  · rw [h1] at g1; cases g1
  · rw [g2 _ h2] at h3; cases h3
  · rw [h1] at g1; cases g1
  · exact ⟨rfl, rfl⟩

/-- A table is built, element by element. -/
theorem mapLoop {A B : Type} (d : B) (f : A → B) (l : List A) (hl : l.length ≤ 4294967296) (step : ((Sl B) × Int) → Option (Sum ((Sl B) × Int) (Sl B)))
    (next : ∀ (M : List B) (k : Nat) (a : A), M.length = l.length → l[k]? = some a → step (some M, (k : Int)) = some (.inl (some (M.set k (f a)), wr ((k : Int) + 1))))
    (fin : ∀ w : Sl B, step (w, ((l.length : Nat) : Int)) = some (.inr w)) : loopT step (some (List.replicate l.length d), 0) = some (some (l.map f)) := by
  obtain ⟨r, h1, h2⟩ := loopT_ex (step := step) (fun k t => ∃ M, t = (some M, (k : Int)) ∧ M.length = l.length ∧ ∀ j, j < k → M[j]? = (l.map f)[j]?) l.length (fun r => r = some (l.map f))
    (fun k t hk ht => by
      obtain ⟨M, rfl, m1, m2⟩ := ht
      obtain ⟨a, ha⟩ : ∃ a, l[k]? = some a := ⟨l[k], List.getElem?_eq_getElem hk⟩
      have e := next M k a m1 ha
      rw [wr_succ hk hl] at e
      refine .inl ⟨_, e, _, rfl, by rw [List.length_set, m1], fun j hj => ?_⟩
      by_cases c : j = k
      · subst c
        rw [List.getElem?_set_self (by omega), List.getElem?_map, ha]
        rfl
      · rw [List.getElem?_set_ne (fun h => c h.symm)]
        exact m2 j (by omega))
    (fun t ht => by
      obtain ⟨M, rfl, m1, m2⟩ := ht
      refine ⟨_, fin _, ?_⟩
      congr 1
      apply List.ext_getElem?
      intro j
      by_cases c : j < l.length
      · exact m2 j c
      · rw [List.getElem?_eq_none (by omega), List.getElem?_eq_none (by simp; omega)])
    (s := (some (List.replicate l.length d), 0)) ⟨_, rfl, by simp, fun j hj => by omega⟩
  rw [h1, h2]

theorem make_len {A : Type} (d : A) {n : Nat} (h : n ≤ 4294967296) : makeO d ((n : Nat) : Int) = some (List.replicate n d) := by
  unfold makeO
  rw [if_pos ⟨by omega, by omega⟩, Int.toNat_natCast]

/-- All elements are alike. -/
theorem eqLoop {step : Int → Option (Sum Int (Sum Unit Bool))} (n : Nat) (hn : n ≤ 4294967296) (next : ∀ k : Nat, k < n → step (k : Int) = some (.inl (wr ((k : Int) + 1)))) (fin : step ((n : Nat) : Int) = some (.inr (.inl ()))) : loopT step 0 = some (.inl ()) := by
  obtain ⟨r, h1, h2⟩ := loopT_ex (step := step) (fun k t => t = (k : Int)) n (fun r => r = .inl ())
    (fun k t hk ht => by
      subst ht
      have e := next k hk
      rw [wr_succ hk hn] at e
      exact .inl ⟨_, e, rfl⟩)
    (fun t ht => by
      subst ht
      exact ⟨_, fin, rfl⟩) (s := 0) rfl
  rw [h1, h2]

/-- Sizes are counted down. -/
theorem szLoop {A : Type} (wt : A → Nat) (l : List A) (hl : l.length ≤ 1048576) (step : (Int × Int) → Option (Sum (Int × Int) (Sum Int Int)))
    (next : ∀ (w : Int) (k : Nat) (a : A), 0 ≤ w → w ≤ 1048576 → l[k]? = some a → step (w, (k : Int)) = some (.inr (.inr (-1))) ∨ ((wt a : Nat) : Int) ≤ w ∧ step (w, (k : Int)) = some (.inl (w - ((wt a : Nat) : Int), wr ((k : Int) + 1))))
    (fin : ∀ w, step (w, ((l.length : Nat) : Int)) = some (.inr (.inl w))) {w0 : Int} (h0 : 0 ≤ w0) (h1 : w0 ≤ 1048576) :
    loopT step (w0, 0) = some (.inr (-1)) ∨ ∃ r, loopT step (w0, 0) = some (.inl r) ∧ 0 ≤ r ∧ r = w0 - (((l.map wt).sum : Nat) : Int) := by
  obtain ⟨r, e, h⟩ := loopT_ex (step := step) (fun k t => ∃ w, t = (w, (k : Int)) ∧ 0 ≤ w ∧ w = w0 - ((((l.take k).map wt).sum : Nat) : Int)) l.length (fun r => r = .inr (-1) ∨ ∃ w, r = .inl w ∧ 0 ≤ w ∧ w = w0 - (((l.map wt).sum : Nat) : Int))
    (fun k t hk ⟨w, ht, w1, w2⟩ => by
      subst ht
      obtain ⟨a, ha⟩ : ∃ a, l[k]? = some a := ⟨l[k], List.getElem?_eq_getElem hk⟩
      rcases next w k a w1 (by omega) ha with h | ⟨h2, h⟩
      · exact .inr ⟨_, h, .inl rfl⟩
      · rw [wr_succ hk (show l.length ≤ 4294967296 by omega)] at h
        refine .inl ⟨_, h, _, rfl, by omega, ?_⟩
        have e1 : l.take (k + 1) = l.take k ++ [a] := by
          rw [List.take_succ_eq_append_getElem hk]
          rw [List.getElem?_eq_getElem hk] at ha
          rw [Option.some.inj ha]
        rw [e1, List.map_append, List.sum_append, List.map_cons, List.map_nil, List.sum_cons, List.sum_nil]
        omega)
    (fun t ⟨w, ht, w1, w2⟩ => by
      subst ht
      rw [List.take_length] at w2
      exact ⟨_, fin w, .inr ⟨w, rfl, w1, w2⟩⟩)
    (s := (w0, 0)) ⟨w0, rfl, h0, by simp⟩
  rcases h with rfl | ⟨w, rfl, w1, w2⟩
  · exact .inl e
  · exact .inr ⟨w, e, w1, w2⟩

/-- A size function counts down a weight. -/
def SzOK {A : Type} (t : A → Int → Option Int) (wt : A → Nat) (a : A) : Prop := ∀ k : Int, 0 ≤ k → k ≤ 1048576 → t a k = some (-1) ∨ ((wt a : Nat) : Int) ≤ k ∧ t a k = some (k - ((wt a : Nat) : Int))

def wtS {A : Type} (wt : A → Nat) (s : Sl A) : Nat := (s.getD []).length + ((s.getD []).map wt).sum

theorem wt_mem {A : Type} {wt : A → Nat} {s : Sl A} {a : A} (h : a ∈ s.getD []) : wt a ≤ wtS wt s := by
  have : ∀ l : List A, a ∈ l → wt a ≤ (l.map wt).sum := by
    intro l
    induction l with
    | nil => intro h; cases h
    | cons b l ih =>
      intro h
      rw [List.map_cons, List.sum_cons]
      rcases List.mem_cons.1 h with rfl | h
      · omega
      · have := ih h
        omega
  have := this _ h
  unfold wtS
  omega

theorem szS_ok {A : Type} {wt : A → Nat} {te : A → Int → Option Int} {s : Sl A} (hb : (s.getD []).length ≤ maxLen) (he : ∀ a ∈ s.getD [], SzOK te wt a) {t : Sl A → Int → Option Int} {step : (Int × Int) → Option (Sum (Int × Int) (Sum Int Int))}
    (ht : ∀ k, t s k = bif decide ((wr (k - (((s.getD []).length : Nat) : Int))) < 0) then some (-1) else obind (loopT step (wr (k - (((s.getD []).length : Nat) : Int)), 0)) fun q => match q with | .inl q => some q | .inr q => some q)
    (hs : ∀ (w : Int) (i : Nat) (a : A), (s.getD [])[i]? = some a → step (w, (i : Int)) = obind (te a w) fun c => bif decide (c < 0) then some (.inr (.inr (-1))) else some (.inl (c, wr ((i : Int) + 1))))
    (hf : ∀ w, step (w, (((s.getD []).length : Nat) : Int)) = some (.inr (.inl w))) : SzOK t (wtS wt) s := by
  intro k h0 h1
  rw [maxLen_eq] at hb
  have ws : wr (k - (((s.getD []).length : Nat) : Int)) = k - (((s.getD []).length : Nat) : Int) := wr_id (by omega) (by omega)
  rw [ht, ws]
  by_cases c : k - (((s.getD []).length : Nat) : Int) < 0
  · left
    rw [decide_eq_true c, cond_true]
  · rw [decide_eq_false c, cond_false]
    rcases szLoop wt (s.getD []) (by omega) step (fun w i a w0 w1 ha => by
      rw [hs w i a ha]
      rcases he a (List.mem_of_getElem? ha) w w0 w1 with h | ⟨h2, h⟩
      · left
        rw [h]
        rfl
      · right
        refine ⟨h2, ?_⟩
        rw [h, obind_sm, decide_eq_false (show ¬ w - ((wt a : Nat) : Int) < 0 by omega), cond_false]) hf (w0 := k - (((s.getD []).length : Nat) : Int)) (by omega) (by omega) with h | ⟨r, h, h2, h3⟩
    · left
      rw [h]
      rfl
    · right
      rw [h]
      have hw : ((wtS wt s : Nat) : Int) = (((s.getD []).length : Nat) : Int) + ((((s.getD []).map wt).sum : Nat) : Int) := by unfold wtS; omega
      refine ⟨by omega, ?_⟩
      rw [obind_sm]
      refine congrArg some ?_
      omega

theorem sz_str {n : Nat} {k : Int} (hn : n ≤ maxLen) (h1 : k ≤ 1048576) (h0 : 0 ≤ k) : wr (k - (n : Int)) = k - (n : Int) := by
  rw [maxLen_eq] at hn
  exact wr_id (by omega) (by omega)

theorem toStringS_ok (a : Sl ByteArray) (hl : (a.getD []).length ≤ 4294967296) : t_laws_toStringS a = some (some ((a.getD []).map (fun x : ByteArray => x))) := by
  have lp := mapLoop (⟨#[]⟩ : ByteArray) (fun x : ByteArray => x) (a.getD []) hl (s0_laws_toStringS a) (fun M k x hM hx => by
    have hk := get_lt hx
    have c : (k : Int) < (((a.getD []).length : Nat) : Int) := by omega
    obtain ⟨y, hy⟩ : ∃ y, M[k]? = some y := ⟨M[k]'(by omega), List.getElem?_eq_getElem _⟩
    unfold s0_laws_toStringS
    simp only [c, decide_true, cond_true, getI_nat hx, obind_sm, Option.getD_some, getI_nat hy, setS, Option.map_some, Int.toNat_natCast]) (fun w => by
    unfold s0_laws_toStringS
    simp only [Int.lt_irrefl, decide_false, cond_false])
  unfold t_laws_toStringS
  rw [make_len _ hl, obind_sm, lp, obind_sm]

theorem eqStringS_ok {a b : Sl ByteArray} (h : a.getD [] = b.getD []) (hl : (a.getD []).length ≤ 4294967296) : t_laws_eqStringS a b = some true := by
  have lp := eqLoop (step := s0_laws_eqStringS a b) (a.getD []).length hl (fun k hk => by
      have c : (k : Int) < ((a.getD []).length : Nat) := by omega
      obtain ⟨x, hx⟩ : ∃ x, (a.getD [])[k]? = some x := ⟨_, List.getElem?_eq_getElem hk⟩
      unfold s0_laws_eqStringS
      simp only [c, decide_true, cond_true, getI_nat hx, ← h, obind_sm, Bool.not_true, cond_false])
    (by
      unfold s0_laws_eqStringS
      simp only [Int.lt_irrefl, decide_false, cond_false])
  unfold t_laws_eqStringS
  rw [lp, ← h]
  simp

theorem eqBigramS_ok {a b : Sl Bigram} (h : a.getD [] = b.getD []) (hl : (a.getD []).length ≤ 4294967296) : t_laws_eqBigramS a b = some true := by
  have lp := eqLoop (step := s0_laws_eqBigramS a b) (a.getD []).length hl (fun k hk => by
      have c : (k : Int) < ((a.getD []).length : Nat) := by omega
      obtain ⟨x, hx⟩ : ∃ x, (a.getD [])[k]? = some x := ⟨_, List.getElem?_eq_getElem hk⟩
      unfold s0_laws_eqBigramS
      simp only [c, decide_true, cond_true, getI_nat hx, ← h, obind_sm, Bool.not_true, cond_false])
    (by
      unfold s0_laws_eqBigramS
      simp only [Int.lt_irrefl, decide_false, cond_false])
  unfold t_laws_eqBigramS
  rw [lp, ← h]
  simp

/-- Sizes of strings: as the program counts them. -/
def szStr (s : ByteArray) (k : Int) : Option Int := bif decide (wr (k - (s.size : Int)) < 0) then some (-1) else some (wr (k - (s.size : Int)))

theorem szStr_ok {s : ByteArray} (h : s.size ≤ maxLen) : SzOK szStr (fun s => s.size) s := fun k h0 h1 => by
  unfold szStr
  rw [sz_str h h1 h0]
  by_cases c : k - (s.size : Int) < 0
  · left
    rw [decide_eq_true c, cond_true]
  · right
    rw [decide_eq_false c, cond_false]
    exact ⟨by show (s.size : Int) ≤ k; omega, rfl⟩

theorem szStringS_ok {s : Sl ByteArray} (hb : (s.getD []).length ≤ maxLen) (he : ∀ a ∈ s.getD [], a.size ≤ maxLen) : SzOK t_laws_szStringS (wtS fun s => s.size) s :=
  szS_ok (te := szStr) hb (fun a ha => szStr_ok (he a ha)) (step := s0_laws_szStringS s) (fun k => rfl) (fun w i a ha => by
    have hk := get_lt ha
    have c : (i : Int) < (((s.getD []).length : Nat) : Int) := by omega
    unfold s0_laws_szStringS szStr
    simp only [c, decide_true, cond_true, getI_nat ha, obind_sm]
    cases e : decide (wr (w - (a.size : Int)) < 0) with
    | true => rfl
    | false => simp only [cond_false, obind_sm, e]) (fun w => by
    unfold s0_laws_szStringS
    simp only [Int.lt_irrefl, decide_false, cond_false])

/-! ### Valid lattices, lexicons and models -/
theorem bytesO_some {s : ByteArray} (h : s.size ≤ 4294967296) : bytesO s = some (bl s) := by
  unfold bytesO
  rw [if_pos h]

theorem getB_bl {s : ByteArray} {k : Nat} {b : UInt8} (h : (bl s)[k]? = some b) : getB s (k : Int) = some b := getI_nat h

def fLow (_ : Nat) (b : UInt8) : Option Bool := bif !isLow b then some false else none

theorem fLow_all : ∀ (l : List UInt8) (k : Nat), firstL fLow l k = bif l.all isLow then none else some false
  | [], _ => rfl
  | b :: l, k => by
    unfold firstL fLow
    rw [List.all_cons]
    cases e : isLow b with
    | false => rfl
    | true =>
      have := fLow_all l (k + 1)
      unfold fLow at this
      simpa using this

theorem implWord_ok {s : ByteArray} (h : s.size ≤ 4294967296) : t_impl_IsWord s = some (isWord s) := by
  have hl : (bl s).length ≤ 4294967296 := by rw [bl_len]; exact h
  have lp := loopT_first (step := s0_impl_IsWord (bl s)) (bl s) fLow (.inl ()) .inr
    (fun k a ha => by
      have hk := get_lt ha
      have c : (k : Int) < (((bl s).length : Nat) : Int) := by omega
      unfold s0_impl_IsWord fLow
      simp only [Option.getD_some, c, decide_true, cond_true, getI_nat ha, obind_sm, wr_succ hk hl]
      cases isLow a <;> rfl)
    (by
      unfold s0_impl_IsWord
      simp only [Option.getD_some, Int.lt_irrefl, decide_false, cond_false])
  rw [fLow_all] at lp
  unfold t_impl_IsWord isWord
  rw [bytesO_some h, obind_sm, lp]
  have d1 : decide (1 ≤ (s.size : Int)) = decide (1 ≤ s.size) := decide_eq_decide.2 (by omega)
  have d2 : decide ((s.size : Int) ≤ 10) = decide (s.size ≤ 10) := decide_eq_decide.2 (by omega)
  rw [d1, d2]
  cases (bl s).all isLow with
  | false => rfl
  | true => cases decide (1 ≤ s.size) <;> rfl

theorem specWord_ok {s : ByteArray} (h : s.size ≤ 4294967296) : t_spec_IsWord s = some (isWord s) := by
  have hl : (bl s).length ≤ 4294967296 := by rw [bl_len]; exact h
  have lp := loopT_first (step := s0_spec_IsWord s) (bl s) fLow (.inl ()) .inr
    (fun k a ha => by
      have hk := get_lt ha
      have c : (k : Int) < (s.size : Int) := by rw [bl_len] at hk; omega
      unfold s0_spec_IsWord fLow
      simp only [c, decide_true, cond_true, getB_bl ha, obind_sm, wr_succ hk hl]
      cases isLow a <;> rfl)
    (by
      unfold s0_spec_IsWord
      rw [bl_len]
      simp only [Int.lt_irrefl, decide_false, cond_false])
  rw [fLow_all] at lp
  unfold t_spec_IsWord isWord
  rw [lp]
  have d1 : within (s.size : Int) 1 10 = (decide (1 ≤ s.size) && decide (s.size ≤ 10)) := by
    unfold within
    congr 1 <;> exact decide_eq_decide.2 (by omega)
  rw [d1]
  cases (bl s).all isLow with
  | false => rfl
  | true => rfl

/-! ### The cost of a text in a lattice: the least cost of a path -/
inductive Wy (E : List Edg) (lab : Nat → ByteArray) : Nat → Nat → Int → Prop
  | start : Wy E lab 0 0 0
  | step {k u v : Nat} {c : Int} {i : Nat} {e : Edg} : Wy E lab k u c → E[i]? = some e → e.frm = (u : Int) → e.upto = (v : Int) → e.label = lab k → Wy E lab (k + 1) v (c + e.cost)

/-- A cost is the least of a set; where the set is empty it is the given mark. -/
def LeW (W : Int) (S : Int → Prop) (x : Int) : Prop := (x = W ∧ ∀ c, ¬ S c) ∨ (S x ∧ ∀ c, S c → x ≤ c)

theorem LeW.same {W : Int} {S T : Int → Prop} {x : Int} (h : LeW W S x) (hs : ∀ c, S c ↔ T c) : LeW W T x := by
  rcases h with ⟨h1, h2⟩ | ⟨h1, h2⟩
  · exact .inl ⟨h1, fun c hc => h2 c ((hs c).2 hc)⟩
  · exact .inr ⟨(hs x).1 h1, fun c hc => h2 c ((hs c).2 hc)⟩

theorem set_upd {L : List Int} {v : Nat} {x y : Int} (h : L[v]? = some x) (i : Nat) : (L.set v y)[i]? = if i = v then some y else L[i]? := by
  by_cases e : i = v
  · subst e
    rw [if_pos rfl, List.getElem?_set_self (get_lt h)]
  · rw [if_neg e, List.getElem?_set_ne (fun k => e k.symm)]

/-- .. what the first j edges tell of the next row. -/
def Nxt (E : List Edg) (lab : Nat → ByteArray) (k j : Nat) (v : Nat) (c : Int) : Prop := ∃ i e u c', i < j ∧ E[i]? = some e ∧ e.frm = ((u : Nat) : Int) ∧ e.upto = (v : Int) ∧ e.label = lab k ∧ Wy E lab k u c' ∧ c = c' + e.cost

theorem Nxt.all {E : List Edg} {lab : Nat → ByteArray} {k v : Nat} {c : Int} : Nxt E lab k E.length v c ↔ Wy E lab (k + 1) v c := by
  constructor
  · rintro ⟨i, e, u, c', _, he, hf, hu, hl, hw, rfl⟩
    exact .step hw he hf hu hl
  · intro h
    cases h with
    | step hw he hf hu hl => exact ⟨_, _, _, _, get_lt he, he, hf, hu, hl, hw, rfl⟩

/-- A cell's cost is at most c. -/
def Cap (n : Nat) (L : List Int) (v k : Nat) (c : Int) : Prop := ∃ x, L[v * (n + 1) + k]? = some x ∧ 0 ≤ x ∧ x ≤ c

theorem Cap.mono {n : Nat} {L : List Int} {v k m : Nat} {c x y : Int} (h : Cap n L v k c) (hx : L[m]? = some x) (hy : x < 0 ∨ y < x) (h0 : 0 ≤ y) : Cap n (L.set m y) v k c := by
  obtain ⟨z, h1, h2, h3⟩ := h
  unfold Cap
  rw [set_upd hx]
  by_cases e : v * (n + 1) + k = m
  · rw [if_pos e]
    rw [e, hx] at h1
    cases h1
    exact ⟨y, rfl, h0, by omega⟩
  · rw [if_neg e]
    exact ⟨z, h1, h2, h3⟩

theorem mem_len {A : Type} {wt : A → Nat} (s : Sl A) : (s.getD []).length ≤ wtS wt s := by
  unfold wtS
  omega

/-! ### Sets of symbols as numbers; sums -/
theorem wr_shift (x q : Int) : wr (x + 18446744073709551616 * q) = wr x := by
  simp only [wr, IntKind.wrap, IntKind.bits, IntKind.signed]
  first | omega | (simp; done)

theorem wr_mod (x : Int) : ∃ q, wr x = x + 18446744073709551616 * q := by
  have h : ∃ q, wr x = x - 18446744073709551616 * q := by
    simp only [wr, IntKind.wrap, IntKind.bits, IntKind.signed]
    by_cases h : x % 18446744073709551616 ≥ 9223372036854775808
    · exact ⟨x / 18446744073709551616 + 1, by simp [h]; omega⟩
    · exact ⟨x / 18446744073709551616, by simp [h]; omega⟩
  obtain ⟨q, hq⟩ := h
  exact ⟨-q, by rw [hq]; omega⟩

theorem wr_add_l (x y : Int) : wr (wr x + y) = wr (x + y) := by
  obtain ⟨q, h⟩ := wr_mod x
  rw [h, show x + 18446744073709551616 * q + y = x + y + 18446744073709551616 * q by omega, wr_shift]

def upd (base : Nat → Int) (S : Nat) (x : Int) (v : Nat) : Int := if v = S then x else base v

theorem upd_self (base : Nat → Int) (S : Nat) (x : Int) : upd base S x S = x := if_pos rfl

theorem upd_ne {base : Nat → Int} {S v : Nat} (x : Int) (h : v ≠ S) : upd base S x v = base v := if_neg h

structure PI (l : Sl Symbol) (n : Nat) (bx : Nat → Box) (c : Nat → Int) (p : Parser) : Prop where
  list : p.list = l
  boxes : ∀ v, v < n → (p.boxes.getD [])[v]? = some (bx v)
  best : (p.best.getD []).length = n
  clen : (p.count.getD []).length = n
  count : ∀ v, v < n → (p.count.getD [])[v]? = some (c v)

structure CI (l : Sl Symbol) (n : Nat) (bx : Nat → Box) (c : Nat → Int) (p : Chart21) : Prop where
  list : p.list = l
  len : (p.cells.getD []).length = n
  cells : ∀ v, v < n → ∃ x, (p.cells.getD [])[v]? = some x ∧ x.box = bx v ∧ x.ways = c v

theorem setS_look {A : Type} {s : Sl A} {v : Nat} {x y : A} (h : (s.getD [])[v]? = some x) (i : Nat) : ((setS s (v : Int) y).getD [])[i]? = if i = v then some y else (s.getD [])[i]? := by
  cases s with
  | none => simp at h
  | some l =>
    show (l.set ((v : Int).toNat) y)[i]? = if i = v then some y else l[i]?
    rw [Int.toNat_natCast]
    have h' : l[v]? = some x := h
    by_cases e : i = v
    · subst e
      rw [if_pos rfl, List.getElem?_set_self (get_lt h')]
    · rw [if_neg e, List.getElem?_set_ne (fun k => e k.symm)]

theorem PI.add {l : Sl Symbol} {n : Nat} {bx : Nat → Box} {base : Nat → Int} {S : Nat} {X Y : Int} {p : Parser} (h : PI l n bx (upd base S (wr X)) p) (hS : S < n) (q : Sl Choice) (hq : (q.getD []).length = n) : PI l n bx (upd base S (wr (X + Y))) ⟨p.list, p.boxes, q, setS p.count (S : Int) (wr (wr X + Y))⟩ := by
  have hs := h.count S hS
  refine ⟨h.list, h.boxes, hq, by show ((setS p.count (S : Int) _).getD []).length = n; rw [setS_len]; exact h.clen, fun v hv => ?_⟩
  show ((setS p.count (S : Int) _).getD [])[v]? = _
  rw [setS_look hs]
  by_cases e : v = S
  · subst e
    rw [if_pos rfl, upd_self, wr_add_l]
  · rw [if_neg e, upd_ne _ e, h.count v hv, upd_ne _ e]

/-! ### One way, the reference's side; all divisions of a set, on both sides -/
theorem CI.add {l : Sl Symbol} {n : Nat} {bx : Nat → Box} {base : Nat → Int} {S : Nat} {X Y Z : Int} {p : Chart21} (h : CI l n bx (upd base S (wr X)) p) (hS : S < n) (y : Cell21) (hb : y.box = bx S) (hw : y.ways = wr (wr X + Y)) (hZ : wr (X + Y) = wr (X + Z)) : CI l n bx (upd base S (wr (X + Z))) ⟨p.list, setS p.cells (S : Int) y⟩ := by
  obtain ⟨x, hx, _⟩ := h.cells S hS
  refine ⟨h.list, by show ((setS p.cells (S : Int) _).getD []).length = n; rw [setS_len]; exact h.len, fun v hv => ?_⟩
  show ∃ x, ((setS p.cells (S : Int) _).getD [])[v]? = some x ∧ _
  rw [setS_look hx]
  by_cases e : v = S
  · subst e
    rw [if_pos rfl]
    exact ⟨y, rfl, hb, by rw [upd_self, hw, wr_add_l, hZ]⟩
  · rw [if_neg e]
    obtain ⟨z, h1, h2, h3⟩ := h.cells v hv
    exact ⟨z, h1, h2, by rw [h3, upd_ne _ e, upd_ne _ e]⟩

/-! ### The boxes of sets; one set whole -/
def shrQ (S i : Nat) : Int := Int.fdiv (S : Int) (2 ^ (min (i : Int).toNat 64))

def outQ (S i : Nat) : Bool := decide (andI (shrQ S i) 1 = 0)

/-! ### The best way (ParseSymbols) -/
structure Way where
  kind : Int
  sign : Int
  a : Nat
  b : Nat
  cost : Int
  ways : Int
  deriving DecidableEq

abbrev posLt (x y : Way) : Prop := x.kind < y.kind ∨ (x.kind = y.kind ∧ (x.sign < y.sign ∨ (x.sign = y.sign ∧ x.a < y.a)))

abbrev lexLt (x y : Way) : Prop := x.cost < y.cost ∨ (x.cost = y.cost ∧ posLt x y)

def stepI (o : Option Way) (t : Way) : Option Way := if t.ways = 0 then o else match o with
  | none => some t
  | some x => if lexLt t x then some t else some x

def stepS (o : Option Way) (t : Way) : Option Way := if t.ways = 0 then o else match o with
  | none => some t
  | some x => if t.cost < x.cost then some t else some x

def chOf (t : Way) : Choice := ⟨t.kind, t.sign, (t.a : Int), (t.b : Int), t.cost⟩

structure PB (l : Sl Symbol) (n : Nat) (bx : Nat → Box) (base : Nat → Int) (bc : Nat → Choice) (S : Nat) (X : Int) (o : Option Way) (p : Parser) : Prop where
  pi : PI l n bx (upd base S (wr X)) p
  bst : ∀ v, v < n → v ≠ S → (p.best.getD [])[v]? = some (bc v)
  own : ∀ t, o = some t → (p.best.getD [])[S]? = some (chOf t)
  zero : o = none ↔ X = 0
  pos : 0 ≤ X

def chC (x : Cell21) : Choice := ⟨x.kind, x.sign, x.first, x.rest, x.cost⟩

structure CB (l : Sl Symbol) (n : Nat) (bx : Nat → Box) (base : Nat → Int) (cc : Nat → Choice) (S : Nat) (X : Int) (o : Option Way) (p : Chart21) : Prop where
  ci : CI l n bx (upd base S (wr X)) p
  bst : ∀ v, v < n → v ≠ S → ∃ x, (p.cells.getD [])[v]? = some x ∧ chC x = cc v
  own : ∀ t, o = some t → ∃ x, (p.cells.getD [])[S]? = some x ∧ chC x = chOf t
  zero : o = none ↔ X = 0
  pos : 0 ≤ X

theorem PB.same {l : Sl Symbol} {n : Nat} {bx : Nat → Box} {base : Nat → Int} {bc : Nat → Choice} {S : Nat} {X : Int} {o : Option Way} {p : Parser} (h : PB l n bx base bc S X o p) {t : Way} (ht : t.ways = 0) : PB l n bx base bc S (X + t.ways) (stepI o t) p := by
  unfold stepI
  rw [if_pos ht, ht, Int.add_zero]
  exact h

theorem PB.take {l : Sl Symbol} {n : Nat} {bx : Nat → Box} {base : Nat → Int} {bc : Nat → Choice} {S : Nat} {X : Int} {o : Option Way} {p : Parser} (h : PB l n bx base bc S X o p) (hS : S < n) {t : Way} (hp : 0 < t.ways) (hs : stepI o t = some t) : PB l n bx base bc S (X + t.ways) (stepI o t) ⟨p.list, p.boxes, setS p.best (S : Int) (chOf t), setS p.count (S : Int) (wr (wr X + t.ways))⟩ := by
  obtain ⟨y, hy⟩ : ∃ y, (p.best.getD [])[S]? = some y := ⟨_, List.getElem?_eq_getElem (by have := h.pi.best; omega)⟩
  have pos := h.pos
  refine ⟨h.pi.add hS _ (by rw [setS_len]; exact h.pi.best), fun v hv hn => ?_, fun u hu => ?_, ?_, by omega⟩
  · show ((setS p.best (S : Int) _).getD [])[v]? = _
    rw [setS_look hy, if_neg hn]
    exact h.bst v hv hn
  · show ((setS p.best (S : Int) _).getD [])[S]? = _
    rw [hs] at hu
    cases hu
    rw [setS_look hy, if_pos rfl]
  · rw [hs]
    exact ⟨fun e => (by cases e), fun e => by omega⟩

/-! ### One way with its cost, the reference's side -/
theorem CB.same {l : Sl Symbol} {n : Nat} {bx : Nat → Box} {base : Nat → Int} {cc : Nat → Choice} {S : Nat} {X : Int} {o : Option Way} {p : Chart21} (h : CB l n bx base cc S X o p) {t : Way} (ht : t.ways = 0) : CB l n bx base cc S (X + t.ways) (stepS o t) p := by
  unfold stepS
  rw [if_pos ht, ht, Int.add_zero]
  exact h

/-! ### One set whole, with its best way, on both sides -/
def lastIx (S : Nat) : Nat → Nat
  | 0 => 0
  | i + 1 => bif outQ S i then lastIx S i else i

def Lnk (N : Nat) (base : Nat → Int) (v : Nat) (x y : Choice) : Prop :=
  (v &&& (v - 1) = 0 ∧ y = ⟨0, (lastIx v N : Int), 0, 0, 0⟩) ∨ (v &&& (v - 1) ≠ 0 ∧ ∃ t : Way, x = chOf t ∧ y = chOf t ∧ t.kind ≠ 0 ∧ 0 < t.a ∧ t.a < v ∧ t.b < v ∧ base t.a ≠ 0 ∧ (t.b = 0 ∨ base t.b ≠ 0) ∧ t.a + t.b ≤ v)

theorem Lnk.mono {N v S : Nat} {base : Nat → Int} {x y : Choice} {u : Int} (h : Lnk N base v x y) (hv : v ≤ S) (hu : base S = 0) : Lnk N (upd base S u) v x y := by
  rcases h with h | ⟨h1, t, h2, h3, h4, h5, h6, h7, h8, h9, h10⟩
  · exact .inl h
  · refine .inr ⟨h1, t, h2, h3, h4, h5, h6, h7, ?_, ?_, h10⟩
    · rw [upd_ne _ (by omega)]
      exact h8
    · rw [upd_ne _ (by omega)]
      exact h9

/-! ### Pairs of words that are counted: lists alone -/
def mkC (x : WW) (n : Nat) : Bigram := ⟨x.1, x.2, (n : Int)⟩

def cW (x : WW) (l : List WW) : Nat := l.countP fun y => decide (y = x)

theorem cW_snoc (x y : WW) (l : List WW) : cW x (l ++ [y]) = cW x l + (if y = x then 1 else 0) := by
  unfold cW
  rw [List.countP_append, List.countP_cons, List.countP_nil]
  by_cases h : y = x <;> simp [h]

theorem cW_zero {x : WW} {l : List WW} (h : x ∉ l) : cW x l = 0 := by
  unfold cW
  rw [List.countP_eq_zero]
  intro a ha c
  exact h (of_decide_eq_true c ▸ ha)

theorem cW_pos {x : WW} {l : List WW} (h : x ∈ l) : 0 < cW x l := by
  unfold cW
  rw [List.countP_pos_iff]
  exact ⟨x, h, decide_eq_true rfl⟩

theorem cW_le (x : WW) (l : List WW) : cW x l ≤ l.length := List.countP_le_length

theorem before_mk (x y : WW) (m n : Nat) : before (mkC x m) (mkC y n) = ltW x y := (ltW_before x y).symm

theorem before_irr (a : Bigram) : before a a = false := sameB_not (by simp [sameB])

theorem mkC_inj {x y : WW} {m n : Nat} (h : mkC x m = mkC y n) : x = y := by
  obtain ⟨a, b⟩ := x
  obtain ⟨c, d⟩ := y
  have h1 : a = c := congrArg Bigram.first h
  have h2 : b = d := congrArg Bigram.second h
  rw [h1, h2]

/-- Two lists in order with the same members. -/
theorem sorted_ext : ∀ {l1 l2 : List Bigram}, l1.Pairwise (fun a b => before a b = true) → l2.Pairwise (fun a b => before a b = true) → (∀ b, b ∈ l1 ↔ b ∈ l2) → l1 = l2
  | [], [], _, _, _ => rfl
  | [], b :: s, _, _, hm => absurd ((hm b).2 (List.mem_cons_self)) (by simp)
  | a :: r, [], _, _, hm => absurd ((hm a).1 (List.mem_cons_self)) (by simp)
  | a :: r, b :: s, h1, h2, hm => by
    rw [List.pairwise_cons] at h1 h2
    have irr : ∀ c, ¬ before c c = true := fun c h => by rw [before_irr] at h; cases h
    have e : a = b := by
      rcases List.mem_cons.1 ((hm a).1 List.mem_cons_self) with h | h
      · exact h
      · rcases List.mem_cons.1 ((hm b).2 List.mem_cons_self) with k | k
        · exact k.symm
        · exact absurd (before_trans (h1.1 b k) (h2.1 a h)) (irr a)
    subst e
    rw [sorted_ext h1.2 h2.2 fun c => ⟨fun hc => by
      rcases List.mem_cons.1 ((hm c).1 (List.mem_cons_of_mem _ hc)) with h | h
      · subst h; exact absurd (h1.1 _ hc) (irr _)
      · exact h, fun hc => by
      rcases List.mem_cons.1 ((hm c).2 (List.mem_cons_of_mem _ hc)) with h | h
      · subst h; exact absurd (h2.1 _ hc) (irr _)
      · exact h⟩]

/-- What the groups are behind the first `k` of a sorted list. -/
structure GI (S : List WW) (k : Nat) (acc : List Bigram) : Prop where
  srt : acc.Pairwise fun a b => before a b = true
  mem : ∀ b ∈ acc, ∃ x ∈ S.take k, b = mkC x (cW x (S.take k))
  all : ∀ x ∈ S.take k, mkC x (cW x (S.take k)) ∈ acc
  last : ∀ y, 0 < k → S[k - 1]? = some y → acc.getLast? = some (mkC y (cW y (S.take k)))
  len : acc.length ≤ k

theorem take_snoc {S : List WW} {k : Nat} {x : WW} (hx : S[k]? = some x) : S.take (k + 1) = S.take k ++ [x] := by
  obtain ⟨h, e⟩ := List.getElem?_eq_some_iff.1 hx
  rw [List.take_succ_eq_append_getElem h, e]

theorem GI.zero (S : List WW) : GI S 0 [] := ⟨List.Pairwise.nil, by simp, by simp, fun y h => absurd h (by omega), by simp⟩

theorem GI.same {S : List WW} {k : Nat} {acc : List Bigram} {x : WW} (G : GI S k acc) (hx : S[k]? = some x) (hk : 0 < k) (hp : S[k - 1]? = some x) : GI S (k + 1) (acc.set (acc.length - 1) (mkC x (cW x (S.take k) + 1))) ∧ acc[acc.length - 1]? = some (mkC x (cW x (S.take k))) := by
  have hl := G.last x hk hp
  obtain ⟨ini, rfl⟩ := List.getLast?_eq_some_iff.1 hl
  have e1 : (ini ++ [mkC x (cW x (S.take k))]).length - 1 = ini.length := by simp
  have e2 : (ini ++ [mkC x (cW x (S.take k))]).set ini.length (mkC x (cW x (S.take k) + 1)) = ini ++ [mkC x (cW x (S.take k) + 1)] := by simp
  rw [e1, e2]
  have ts := take_snoc hx
  have cx : cW x (S.take (k + 1)) = cW x (S.take k) + 1 := by rw [ts, cW_snoc, if_pos rfl]
  have cy : ∀ y, y ≠ x → cW y (S.take (k + 1)) = cW y (S.take k) := fun y h => by rw [ts, cW_snoc, if_neg (fun e => h e.symm)]; rfl
  have sp := List.pairwise_append.1 G.srt
  have lt : ∀ b ∈ ini, before b (mkC x (cW x (S.take k))) = true := fun b hb => sp.2.2 b hb _ List.mem_cons_self
  refine ⟨⟨?_, fun b hb => ?_, fun y hy => ?_, fun y _ hy => ?_, ?_⟩, by simp⟩
  · rw [List.pairwise_append]
    exact ⟨sp.1, List.pairwise_singleton _ _, fun b hb c hc => by
      rw [List.mem_singleton] at hc
      subst hc
      exact lt b hb⟩
  · rcases List.mem_append.1 hb with h | h
    · obtain ⟨y, hy, e⟩ := G.mem b (List.mem_append_left _ h)
      have hne : y ≠ x := fun c => by
        have := lt b h
        rw [e, c, before_irr] at this
        cases this
      exact ⟨y, by rw [ts]; exact List.mem_append_left _ hy, by rw [cy y hne]; exact e⟩
    · rw [List.mem_singleton] at h
      exact ⟨x, by rw [ts]; exact List.mem_append_right _ List.mem_cons_self, by rw [cx]; exact h⟩
  · by_cases c : y = x
    · subst c
      rw [cx]
      exact List.mem_append_right _ List.mem_cons_self
    · rw [ts] at hy
      rw [cy y c]
      rcases List.mem_append.1 hy with h | h
      · rcases List.mem_append.1 (G.all y h) with k1 | k1
        · exact List.mem_append_left _ k1
        · rw [List.mem_singleton] at k1
          exact absurd (mkC_inj k1) c
      · rw [List.mem_singleton] at h
        exact absurd h c
  · rw [Nat.add_sub_cancel, hx] at hy
    cases hy
    rw [cx]
    simp
  · have := G.len
    simp at this ⊢
    omega

theorem GI.new {S : List WW} {k : Nat} {acc : List Bigram} {x : WW} (G : GI S k acc) (hS : S.Pairwise fun a b => leW a b = true) (hx : S[k]? = some x) (hp : ∀ y, 0 < k → S[k - 1]? = some y → y ≠ x) : GI S (k + 1) (acc ++ [bgW x]) := by
  have ts := take_snoc hx
  have hlt : ∀ y ∈ S.take k, ltW y x = true := fun y hy => by
    obtain ⟨i, hi, e⟩ := List.mem_take_iff_getElem.1 hy
    have hk : k < S.length := (List.getElem?_eq_some_iff.1 hx).1
    have hik : i < k := by omega
    have pw := List.pairwise_iff_getElem.1 hS
    have hprev : S[k - 1]? = some S[k - 1] := List.getElem?_eq_getElem (by omega)
    have ne := hp _ (by omega) hprev
    have ex : S[k] = x := (List.getElem?_eq_some_iff.1 hx).2
    have l1 : leW S[k - 1] x = true := by rw [← ex]; exact pw (k - 1) k (by omega) hk (by omega)
    have l2 : ltW S[k - 1] x = true := by
      rcases ltW_tri S[k - 1] x with h | h | h
      · exact h
      · exact absurd h ne
      · unfold leW at l1
        rw [h] at l1
        cases l1
    by_cases c : i = k - 1
    · subst c
      rw [← e]
      exact l2
    · have l3 : leW S[i] S[k - 1] = true := pw i (k - 1) (by omega) (by omega) (by omega)
      cases q : ltW y x with
      | true => rfl
      | false =>
        exfalso
        have l4 : ltW S[k - 1] y = false := by
          rw [← e]
          unfold leW at l3
          cases z : ltW S[k - 1] S[i] with
          | false => rfl
          | true => rw [z] at l3; cases l3
        have := ltW_ntrans _ _ _ l4 q
        rw [l2] at this
        cases this
  have nin : x ∉ S.take k := fun h => by
    have := hlt x h
    rw [ltW_irr] at this
    cases this
  have cx : cW x (S.take (k + 1)) = 1 := by rw [ts, cW_snoc, cW_zero nin, if_pos rfl]
  have cy : ∀ y, y ≠ x → cW y (S.take (k + 1)) = cW y (S.take k) := fun y h => by rw [ts, cW_snoc, if_neg (fun e => h e.symm)]; rfl
  have nx : ∀ y ∈ S.take k, y ≠ x := fun y hy e => nin (e ▸ hy)
  refine ⟨?_, fun b hb => ?_, fun y hy => ?_, fun y _ hy => ?_, ?_⟩
  · rw [List.pairwise_append]
    refine ⟨G.srt, List.pairwise_singleton _ _, fun b hb c hc => ?_⟩
    rw [List.mem_singleton] at hc
    subst hc
    obtain ⟨y, hy, rfl⟩ := G.mem b hb
    exact (before_mk y x _ 1).trans (hlt y hy)
  · rcases List.mem_append.1 hb with h | h
    · obtain ⟨y, hy, e⟩ := G.mem b h
      exact ⟨y, by rw [ts]; exact List.mem_append_left _ hy, by rw [cy y (nx y hy)]; exact e⟩
    · rw [List.mem_singleton] at h
      exact ⟨x, by rw [ts]; exact List.mem_append_right _ List.mem_cons_self, by rw [cx]; exact h⟩
  · rw [ts] at hy
    rcases List.mem_append.1 hy with h | h
    · rw [cy y (nx y h)]
      exact List.mem_append_left _ (G.all y h)
    · rw [List.mem_singleton] at h
      subst h
      rw [cx]
      exact List.mem_append_right _ List.mem_cons_self
  · rw [Nat.add_sub_cancel, hx] at hy
    cases hy
    rw [cx]
    simp [bgW, mkC]
  · have := G.len
    simp
    omega

/-! ### A pair is put into a list in order -/
def putF (b : Bigram) : List Bigram → List Bigram → Bool → List Bigram × Bool
  | [], acc, d => (acc, d)
  | a :: r, acc, d => putF b r ((bif !d && !before a b then acc ++ [b] else acc) ++ (bif sameB a b then [] else [a])) (d || !before a b)

def putB (b : Bigram) (l : List Bigram) : List Bigram := (l.filter fun a => before a b) ++ b :: l.filter fun a => before b a

theorem before_tri (a b : Bigram) (h : before a b = false) (h2 : sameB a b = false) : before b a = true := by
  rcases ltS_tri a.first b.first with k | k | k
  · rw [(before_iff a b).2 (.inl k)] at h; cases h
  · rcases ltS_tri a.second b.second with m | m | m
    · rw [(before_iff a b).2 (.inr ⟨k, m⟩)] at h; cases h
    · unfold sameB at h2
      rw [decide_eq_true k, decide_eq_true m] at h2
      cases h2
    · exact (before_iff b a).2 (.inr ⟨k.symm, m⟩)
  · exact (before_iff b a).2 (.inl k)

theorem before_asym {a b : Bigram} (h : before a b = true) : before b a = false := by
  cases e : before b a with
  | false => rfl
  | true =>
    have := before_trans h e
    rw [before_irr] at this
    cases this

theorem putF_done (b : Bigram) : ∀ (l acc : List Bigram), (∀ a ∈ l, before a b = false) → putF b l acc true = (acc ++ l.filter (fun a => before b a), true)
  | [], acc, _ => by simp [putF]
  | a :: r, acc, h => by
    have h0 := h a List.mem_cons_self
    unfold putF
    rw [h0, Bool.not_true, Bool.false_and, cond_false, Bool.true_or, putF_done b r _ fun c hc => h c (List.mem_cons_of_mem _ hc)]
    cases e : sameB a b with
    | true =>
      have : before b a = false := by
        have s : sameB b a = true := by
          simp [sameB] at e ⊢
          exact ⟨e.1.symm, e.2.symm⟩
        exact sameB_not s
      simp [this]
    | false =>
      have := before_tri a b h0 e
      simp [this]

theorem putF_ok (b : Bigram) : ∀ (l acc : List Bigram), l.Pairwise (fun a c => before a c = true) → putF b l acc false = (if l.all (fun a => before a b) then (acc ++ l, false) else (acc ++ putB b l, true))
  | [], acc, _ => by simp [putF]
  | a :: r, acc, h => by
    rw [List.pairwise_cons] at h
    unfold putF
    cases e : before a b with
    | true =>
      have s : sameB a b = false := by
        cases q : sameB a b with
        | false => rfl
        | true => rw [sameB_not q] at e; cases e
      have e2 := before_asym e
      rw [s]
      simp only [Bool.not_true, Bool.and_false, cond_false, Bool.or_false]
      rw [putF_ok b r _ h.2]
      unfold putB
      simp only [List.all_cons, e, Bool.true_and, List.filter_cons, e2, if_true]
      by_cases c : r.all (fun a => before a b) = true
      · rw [if_pos c, if_pos c]
        simp
      · rw [if_neg c, if_neg c]
        simp
    | false =>
      have nb : ∀ c ∈ r, before c b = false := fun c hc => by
        cases q : before c b with
        | false => rfl
        | true =>
          have := before_trans (h.1 c hc) q
          rw [e] at this
          cases this
      have f1 : r.filter (fun a => before a b) = [] := by
        rw [List.filter_eq_nil_iff]
        intro c hc
        rw [nb c hc]
        exact Bool.false_ne_true
      have dn := putF_done b r
      simp only [Bool.not_false, Bool.and_true, cond_true, Bool.or_true]
      rw [dn _ nb]
      simp only [List.all_cons, e, Bool.false_and, Bool.false_eq_true, if_false]
      unfold putB
      rw [List.filter_cons, e]
      simp only [Bool.false_eq_true, if_false, f1, List.nil_append, List.filter_cons]
      cases s : sameB a b with
      | true =>
        have : before b a = false := by
          have s2 : sameB b a = true := by
            simp [sameB] at s ⊢
            exact ⟨s.1.symm, s.2.symm⟩
          exact sameB_not s2
        simp [this]
      | false =>
        have := before_tri a b e s
        simp [this]

theorem putB_end {b : Bigram} {l : List Bigram} (h : l.all (fun a => before a b) = true) : l ++ [b] = putB b l := by
  have h1 : l.filter (fun a => before a b) = l := List.filter_eq_self.2 fun a ha => List.all_eq_true.1 h a ha
  have h2 : l.filter (fun a => before b a) = [] := by
    rw [List.filter_eq_nil_iff]
    intro a ha
    rw [before_asym (List.all_eq_true.1 h a ha)]
    exact Bool.false_ne_true
  unfold putB
  rw [h1, h2]

theorem putB_sorted {b : Bigram} {l : List Bigram} (h : l.Pairwise fun a c => before a c = true) : (putB b l).Pairwise fun a c => before a c = true := by
  unfold putB
  rw [List.pairwise_append]
  refine ⟨h.filter _, ?_, fun a ha c hc => ?_⟩
  · rw [List.pairwise_cons]
    exact ⟨fun c hc => (List.mem_filter.1 hc).2, h.filter _⟩
  · have h1 := (List.mem_filter.1 ha).2
    rcases List.mem_cons.1 hc with e | e
    · subst e; exact h1
    · exact before_trans h1 (List.mem_filter.1 e).2

theorem putB_mem {b c : Bigram} {l : List Bigram} : c ∈ putB b l ↔ c = b ∨ (c ∈ l ∧ sameB c b = false) := by
  unfold putB
  rw [List.mem_append, List.mem_cons, List.mem_filter, List.mem_filter]
  constructor
  · rintro (⟨h1, h2⟩ | h | ⟨h1, h2⟩)
    · refine .inr ⟨h1, ?_⟩
      cases q : sameB c b with
      | false => rfl
      | true => rw [sameB_not q] at h2; cases h2
    · exact .inl h
    · refine .inr ⟨h1, ?_⟩
      cases q : sameB c b with
      | false => rfl
      | true =>
        have s2 : sameB b c = true := by
          simp [sameB] at q ⊢
          exact ⟨q.1.symm, q.2.symm⟩
        rw [sameB_not s2] at h2
        cases h2
  · rintro (h | ⟨h1, h2⟩)
    · exact .inr (.inl h)
    · cases e : before c b with
      | true => exact .inl ⟨h1, rfl⟩
      | false => exact .inr (.inr ⟨h1, before_tri c b e h2⟩)

theorem putB_len (b : Bigram) (l : List Bigram) : (putB b l).length ≤ l.length + 1 := by
  unfold putB
  rw [List.length_append, List.length_cons]
  have : (l.filter fun a => before a b).length + (l.filter fun a => before b a).length ≤ l.length := by
    induction l with
    | nil => simp
    | cons a r ih =>
      simp only [List.filter_cons]
      cases e : before a b with
      | true =>
        rw [before_asym e]
        simp
        omega
      | false => cases before b a <;> simp <;> omega
  omega

/-! ### Pairs on both sides -/
def prs : ByteArray → List ByteArray → List WW
  | _, [] => []
  | b, a :: r => (b, a) :: prs a r

theorem prs_len : ∀ (l : List ByteArray) (b : ByteArray), (prs b l).length = l.length
  | [], _ => rfl
  | a :: r, b => by simp [prs, prs_len r]

def prsA (ss : List (Sl ByteArray)) : List WW := ss.flatMap fun s => prs ⟨#[]⟩ (s.getD [])

def bg0 (x : WW) : Bigram := ⟨x.1, x.2, 0⟩

theorem s1I_ok (a : Sl ByteArray) (hl : (a.getD []).length ≤ 4294967296) : ∀ (suf pre : List ByteArray) (w : Sl Bigram) (b : ByteArray), a.getD [] = pre ++ suf → (w.getD []).length + suf.length ≤ 4294967296 →
    ∃ w' : Sl Bigram, loopT (s1_impl_countPairs a) (w, b, (pre.length : Int)) = some w' ∧ w'.getD [] = w.getD [] ++ (prs b suf).map bgW
  | [], pre, w, b, h, _ => by
    refine ⟨w, loopT_end ?_, by simp [prs]⟩
    have e : (a.getD []).length = pre.length := by rw [h]; simp
    unfold s1_impl_countPairs
    simp only [e, Int.lt_irrefl, decide_false, cond_false]
  | x :: r, pre, w, b, h, hw => by
    have hx : (a.getD [])[pre.length]? = some x := by rw [h]; simp
    have hlt : pre.length < (a.getD []).length := by rw [h]; simp
    simp only [List.length_cons] at hw
    obtain ⟨w', e1, e2⟩ := s1I_ok a hl r (pre ++ [x]) (appS w [⟨b, x, 1⟩]) x (by rw [h]; simp) (by rw [appS_getD]; simp; omega)
    refine ⟨w', ?_, ?_⟩
    · rw [loopT_next (s' := (appS w [⟨b, x, 1⟩], x, (((pre ++ [x]).length : Nat) : Int)))]
      · exact e1
      · have c : (pre.length : Int) < (((a.getD []).length : Nat) : Int) := by omega
        have hap : appO w [(⟨b, x, 1⟩ : Bigram)] = some (appS w [⟨b, x, 1⟩]) := appO_some (by simp; omega)
        have len : (pre ++ [x]).length = pre.length + 1 := by simp
        unfold s1_impl_countPairs
        simp only [c, decide_true, cond_true, getI_nat hx, obind_sm, hap, wr_succ hlt hl, len]
    · rw [e2, appS_getD]
      simp [prs, bgW]

theorem s1S_ok (ss : Sl (Sl ByteArray)) (i : Nat) (a : Sl ByteArray) (hi : (ss.getD [])[i]? = some a) (hl : (a.getD []).length ≤ 4294967296) : ∀ (suf pre : List ByteArray) (w : Sl Bigram) (b : ByteArray), a.getD [] = pre ++ suf → (w.getD []).length + suf.length ≤ 4294967296 →
    ∃ w' : Sl Bigram, loopT (s1_spec_l18Pairs ss (i : Int)) (w, b, (pre.length : Int)) = some w' ∧ w'.getD [] = w.getD [] ++ (prs b suf).map bg0
  | [], pre, w, b, h, _ => by
    refine ⟨w, loopT_end ?_, by simp [prs]⟩
    have e : (a.getD []).length = pre.length := by rw [h]; simp
    unfold s1_spec_l18Pairs
    simp only [getI_nat hi, obind_sm, e, Int.lt_irrefl, decide_false, cond_false]
  | x :: r, pre, w, b, h, hw => by
    have hx : (a.getD [])[pre.length]? = some x := by rw [h]; simp
    have hlt : pre.length < (a.getD []).length := by rw [h]; simp
    simp only [List.length_cons] at hw
    obtain ⟨w', e1, e2⟩ := s1S_ok ss i a hi hl r (pre ++ [x]) (appS w [⟨b, x, 0⟩]) x (by rw [h]; simp) (by rw [appS_getD]; simp; omega)
    refine ⟨w', ?_, ?_⟩
    · rw [loopT_next (s' := (appS w [⟨b, x, 0⟩], x, (((pre ++ [x]).length : Nat) : Int)))]
      · exact e1
      · have c : (pre.length : Int) < (((a.getD []).length : Nat) : Int) := by omega
        have hap : appO w [(⟨b, x, 0⟩ : Bigram)] = some (appS w [⟨b, x, 0⟩]) := appO_some (by simp; omega)
        have len : (pre ++ [x]).length = pre.length + 1 := by simp
        unfold s1_spec_l18Pairs
        simp only [getI_nat hi, obind_sm, c, decide_true, cond_true, getI_nat hx, hap, wr_succ hlt hl, len]
    · rw [e2, appS_getD]
      simp [prs, bg0]

theorem s0I_ok (ss : Sl (Sl ByteArray)) (hl : (ss.getD []).length ≤ 4294967296) (ha : ∀ a ∈ ss.getD [], (a.getD []).length ≤ 4294967296) : ∀ (suf pre : List (Sl ByteArray)) (w : Sl Bigram), ss.getD [] = pre ++ suf → (w.getD []).length + (prsA suf).length ≤ 4294967296 →
    ∃ w' : Sl Bigram, loopT (s0_impl_countPairs ss) (w, (pre.length : Int)) = some w' ∧ w'.getD [] = w.getD [] ++ (prsA suf).map bgW
  | [], pre, w, h, _ => by
    refine ⟨w, loopT_end ?_, by simp [prsA]⟩
    have e : (ss.getD []).length = pre.length := by rw [h]; simp
    unfold s0_impl_countPairs
    simp only [e, Int.lt_irrefl, decide_false, cond_false]
  | x :: r, pre, w, h, hw => by
    have hx : (ss.getD [])[pre.length]? = some x := by rw [h]; simp
    have hlt : pre.length < (ss.getD []).length := by rw [h]; simp
    have ec : prsA (x :: r) = prs ⟨#[]⟩ (x.getD []) ++ prsA r := rfl
    rw [ec, List.length_append, prs_len] at hw
    obtain ⟨w1, f1, f2⟩ := s1I_ok x (ha x (List.mem_of_getElem? hx)) (x.getD []) [] w ⟨#[]⟩ rfl (by omega)
    obtain ⟨w', e1, e2⟩ := s0I_ok ss hl ha r (pre ++ [x]) w1 (by rw [h]; simp) (by rw [f2]; simp [prs_len]; omega)
    refine ⟨w', ?_, ?_⟩
    · rw [loopT_next (s' := (w1, (((pre ++ [x]).length : Nat) : Int)))]
      · exact e1
      · have c : (pre.length : Int) < (((ss.getD []).length : Nat) : Int) := by omega
        have len : (pre ++ [x]).length = pre.length + 1 := by simp
        have f1' : loopT (s1_impl_countPairs x) (w, (⟨#[]⟩ : ByteArray), 0) = some w1 := f1
        unfold s0_impl_countPairs
        simp only [c, decide_true, cond_true, getI_nat hx, obind_sm, f1', wr_succ hlt hl, len]
    · rw [e2, f2, ec, List.map_append, List.append_assoc]

theorem s0S_ok (ss : Sl (Sl ByteArray)) (hl : (ss.getD []).length ≤ 4294967296) (ha : ∀ a ∈ ss.getD [], (a.getD []).length ≤ 4294967296) : ∀ (suf pre : List (Sl ByteArray)) (w : Sl Bigram), ss.getD [] = pre ++ suf → (w.getD []).length + (prsA suf).length ≤ 4294967296 →
    ∃ w' : Sl Bigram, loopT (s0_spec_l18Pairs ss) (w, (pre.length : Int)) = some w' ∧ w'.getD [] = w.getD [] ++ (prsA suf).map bg0
  | [], pre, w, h, _ => by
    refine ⟨w, loopT_end ?_, by simp [prsA]⟩
    have e : (ss.getD []).length = pre.length := by rw [h]; simp
    unfold s0_spec_l18Pairs
    simp only [e, Int.lt_irrefl, decide_false, cond_false]
  | x :: r, pre, w, h, hw => by
    have hx : (ss.getD [])[pre.length]? = some x := by rw [h]; simp
    have hlt : pre.length < (ss.getD []).length := by rw [h]; simp
    have ec : prsA (x :: r) = prs ⟨#[]⟩ (x.getD []) ++ prsA r := rfl
    rw [ec, List.length_append, prs_len] at hw
    obtain ⟨w1, f1, f2⟩ := s1S_ok ss pre.length x hx (ha x (List.mem_of_getElem? hx)) (x.getD []) [] w ⟨#[]⟩ rfl (by omega)
    obtain ⟨w', e1, e2⟩ := s0S_ok ss hl ha r (pre ++ [x]) w1 (by rw [h]; simp) (by rw [f2]; simp [prs_len]; omega)
    refine ⟨w', ?_, ?_⟩
    · rw [loopT_next (s' := (w1, (((pre ++ [x]).length : Nat) : Int)))]
      · exact e1
      · have c : (pre.length : Int) < (((ss.getD []).length : Nat) : Int) := by omega
        have len : (pre ++ [x]).length = pre.length + 1 := by simp
        have f1' : loopT (s1_spec_l18Pairs ss (pre.length : Int)) (w, (⟨#[]⟩ : ByteArray), 0) = some w1 := f1
        unfold s0_spec_l18Pairs
        simp only [c, decide_true, cond_true, obind_sm, f1', wr_succ hlt hl, len]
    · rw [e2, f2, ec, List.map_append, List.append_assoc]

/-! ### Groups of the sorted list -/
theorem cmpW_zero (x y : WW) : decide (cmpB (bgW x) (bgW y) = 0) = decide (x = y) := by
  rw [cmpB_zero]
  obtain ⟨a, b⟩ := x
  obtain ⟨c, d⟩ := y
  by_cases h : a = c <;> by_cases k : b = d <;> simp [sameB, bgW, h, k]

theorem setS_nat {A : Type} (s : Sl A) (i : Nat) (v : A) : (setS s (i : Int) v).getD [] = (s.getD []).set i v := by
  cases s with
  | none => rfl
  | some l => rfl

theorem s2I_ok (S : List WW) (hl : S.length ≤ 4294967295) (hS : S.Pairwise fun a b => leW a b = true) (w : Sl Bigram) (hw : w.getD [] = S.map bgW) : ∃ r : Sl Bigram, loopT (s2_impl_countPairs w) ((none : Sl Bigram), 0) = some r ∧ GI S S.length (r.getD []) := by
  have hwl : (w.getD []).length = S.length := by rw [hw, List.length_map]
  have hg : ∀ {k : Nat} {x : WW}, S[k]? = some x → (w.getD [])[k]? = some (bgW x) := fun {k x} hx => by rw [hw, List.getElem?_map, hx]; rfl
  exact loopT_ex (step := s2_impl_countPairs w) (fun k t => ∃ w1 : Sl Bigram, t = (w1, (k : Int)) ∧ GI S k (w1.getD [])) S.length (fun r => GI S S.length (r.getD []))
    (fun k t hk ⟨w1, ht, G⟩ => by
      subst ht
      obtain ⟨x, hx⟩ : ∃ x, S[k]? = some x := ⟨S[k], List.getElem?_eq_getElem hk⟩
      have c : (k : Int) < (((w.getD []).length : Nat) : Int) := by omega
      have ws := wr_succ hk (show S.length ≤ 4294967296 by omega)
      have app : ∀ hp : (∀ y, 0 < k → S[k - 1]? = some y → y ≠ x), ∃ s', (obind (appO w1 ([bgW x] : List Bigram)) fun _ => some (Sum.inl (β := Sl Bigram) ((appS w1 ([bgW x] : List Bigram)), wr ((k : Int) + 1)))) = some (.inl s') ∧ ∃ w1 : Sl Bigram, s' = (w1, ((k + 1 : Nat) : Int)) ∧ GI S (k + 1) (w1.getD []) := fun hp => by
        have gl := G.len
        rw [appO_some (by simp; omega), obind_sm, ws]
        exact ⟨_, rfl, _, rfl, by rw [appS_getD]; exact G.new hS hx hp⟩
      by_cases k0 : k = 0
      · subst k0
        obtain ⟨s', e1, e2⟩ := app (fun y h => absurd h (by omega))
        refine .inl ⟨s', ?_, e2⟩
        rw [← e1]
        unfold s2_impl_countPairs
        have d0 : decide ((0 : Int) < ((0 : Nat) : Int)) = false := rfl
        simp only [c, decide_true, cond_true, getI_nat (hg hx), obind_sm, d0, cond_false]
      · have hk1 : k - 1 < S.length := by omega
        obtain ⟨y, hy⟩ : ∃ y, S[k - 1]? = some y := ⟨S[k - 1], List.getElem?_eq_getElem hk1⟩
        have d0 : decide ((0 : Int) < (k : Int)) = true := decide_eq_true (by omega)
        have wk : wr ((k : Int) - 1) = ((k - 1 : Nat) : Int) := by rw [wr_id (by omega) (by omega)]; omega
        have cz := cmpW_zero y x
        by_cases hyx : y = x
        · subst hyx
          obtain ⟨G2, hlast⟩ := G.same hx (by omega) hy
          have gl := G.len
          have pos : 0 < (w1.getD []).length := by
            have := (List.getElem?_eq_some_iff.1 hlast).1
            omega
          have wl : wr ((((w1.getD []).length : Nat) : Int) - 1) = (((w1.getD []).length - 1 : Nat) : Int) := by rw [wr_id (by omega) (by omega)]; omega
          have cl := cW_le y (S.take k)
          have tl : (S.take k).length ≤ S.length := by simp; omega
          have wc : wr ((mkC y (cW y (S.take k))).cost + 1) = ((cW y (S.take k) + 1 : Nat) : Int) := by
            show wr (((cW y (S.take k) : Nat) : Int) + 1) = _
            rw [wr_id (by omega) (by omega)]
            omega
          rw [decide_eq_true rfl] at cz
          refine .inl ⟨(setS w1 (((w1.getD []).length - 1 : Nat) : Int) (mkC y (cW y (S.take k) + 1)), ((k + 1 : Nat) : Int)), ?_, _, rfl, ?_⟩
          · unfold s2_impl_countPairs
            simp only [c, decide_true, cond_true, getI_nat (hg hx), obind_sm, d0, wk, getI_nat (hg hy), cz, wl, getI_nat hlast, wc, ws]
            rfl
          · rw [setS_nat]
            exact G2
        · rw [decide_eq_false hyx] at cz
          obtain ⟨s', e1, e2⟩ := app (fun z _ hz => by rw [hy] at hz; cases hz; exact hyx)
          refine .inl ⟨s', ?_, e2⟩
          rw [← e1]
          unfold s2_impl_countPairs
          simp only [c, decide_true, cond_true, getI_nat (hg hx), obind_sm, d0, wk, getI_nat (hg hy), cz, cond_false])
    (fun t ⟨w1, ht, G⟩ => by
      subst ht
      refine ⟨w1, ?_, G⟩
      unfold s2_impl_countPairs
      simp only [hwl, Int.lt_irrefl, decide_false, cond_false])
    (s := ((none : Sl Bigram), 0)) ⟨none, rfl, GI.zero S⟩

/-- The groups of a list of pairs. -/
structure Grp (l : List WW) (acc : List Bigram) : Prop where
  srt : acc.Pairwise fun a b => before a b = true
  mem : ∀ b ∈ acc, ∃ x ∈ l, b = mkC x (cW x l)
  all : ∀ x ∈ l, mkC x (cW x l) ∈ acc
  len : acc.length ≤ l.length

theorem leW_total (a b : WW) : (leW a b || leW b a) = true := by
  unfold leW
  rcases ltW_tri a b with h | h | h
  · cases e : ltW b a with
    | false => rfl
    | true =>
      have := ltW_trans _ _ _ h e
      rw [ltW_irr] at this
      cases this
  · subst h
    rw [ltW_irr]
    rfl
  · cases e : ltW a b with
    | false => simp
    | true =>
      have := ltW_trans _ _ _ h e
      rw [ltW_irr] at this
      cases this

theorem leW_trans (a b c : WW) (h1 : leW a b = true) (h2 : leW b c = true) : leW a c = true := by
  unfold leW at *
  have k1 : ltW b a = false := by cases e : ltW b a with
    | false => rfl
    | true => rw [e] at h1; cases h1
  have k2 : ltW c b = false := by cases e : ltW c b with
    | false => rfl
    | true => rw [e] at h2; cases h2
  rw [ltW_ntrans _ _ _ k2 k1]
  rfl

theorem wwOf_map (l : List WW) : wwOf (l.map bgW) = some l := by
  unfold wwOf
  have : (l.map bgW).all (fun b => decide (b.cost = 1)) = true := by
    rw [List.all_eq_true]
    intro b hb
    obtain ⟨x, _, rfl⟩ := List.mem_map.1 hb
    rfl
  rw [this, cond_true, List.map_map]
  congr 1
  exact (List.map_congr_left fun x _ => rfl).trans (List.map_id l)

theorem countPairs_ok (ss : Sl (Sl ByteArray)) (hl : (ss.getD []).length ≤ 1048576) (ha : ∀ a ∈ ss.getD [], (a.getD []).length ≤ 1048576) (ht : (prsA (ss.getD [])).length ≤ 1048576) : ∃ r : Sl Bigram, t_impl_countPairs ss = some r ∧ Grp (prsA (ss.getD [])) (r.getD []) := by
  obtain ⟨w, e1, e2⟩ := s0I_ok ss (by omega) (fun a h => by have := ha a h; omega) (ss.getD []) [] none rfl (by show 0 + _ ≤ _; omega)
  have e1' : loopT (s0_impl_countPairs ss) ((none : Sl Bigram), 0) = some w := e1
  have e2' : w.getD [] = (prsA (ss.getD [])).map bgW := by rw [e2]; rfl
  generalize prsA (ss.getD []) = l at *
  obtain ⟨w2, g1, g2⟩ : ∃ w2 : Sl Bigram, sortWO w = some w2 ∧ w2.getD [] = (l.mergeSort leW).map bgW := by
    cases w with
    | none =>
      have : l = [] := by
        have h : ([] : List Bigram) = l.map bgW := e2'
        cases l with
        | nil => rfl
        | cons a r => cases h
      subst this
      exact ⟨none, rfl, by simp⟩
    | some k =>
      have hk : k = l.map bgW := e2'
      subst hk
      refine ⟨some ((l.mergeSort leW).map bgW), ?_, rfl⟩
      unfold sortWO
      have d : decide ((l.map bgW).length ≤ 4294967296) = true := decide_eq_true (by rw [List.length_map]; omega)
      show (bif decide ((l.map bgW).length ≤ 4294967296) then obind (wwOf (l.map bgW)) fun zs => some (some ((zs.mergeSort leW).map bgW)) else none) = _
      rw [d, cond_true, wwOf_map, obind_sm]
  have perm := List.mergeSort_perm l leW
  have hlen : (l.mergeSort leW).length = l.length := List.length_mergeSort _
  have pw := List.pairwise_mergeSort leW_trans leW_total l
  obtain ⟨r, h1, G⟩ := s2I_ok (l.mergeSort leW) (by omega) pw w2 g2
  have cc : ∀ x, cW x (l.mergeSort leW) = cW x l := fun x => perm.countP_eq _
  refine ⟨r, ?_, ?_⟩
  · unfold t_impl_countPairs
    rw [e1', obind_sm, g1, obind_sm, h1, obind_sm]
  · have tk : (l.mergeSort leW).take (l.mergeSort leW).length = l.mergeSort leW := List.take_length
    refine ⟨G.srt, fun b hb => ?_, fun x hx => ?_, by have := G.len; omega⟩
    · obtain ⟨x, hx, e⟩ := G.mem b hb
      rw [tk] at hx e
      exact ⟨x, perm.mem_iff.1 hx, by rw [← cc x]; exact e⟩
    · have := G.all x (by rw [tk]; exact perm.mem_iff.2 hx)
      rw [tk, cc x] at this
      exact this

/-! ### The reference's counts and its list in order -/
theorem bg0_eq (x y : WW) : decide (bg0 y = bg0 x) = decide (y = x) := by
  refine decide_eq_decide.2 ⟨fun h => ?_, fun h => by rw [h]⟩
  obtain ⟨a, b⟩ := x
  obtain ⟨c, d⟩ := y
  have h1 : c = a := congrArg Bigram.first h
  have h2 : d = b := congrArg Bigram.second h
  rw [h1, h2]

theorem times_ok (l : List WW) (c : Sl Bigram) (hc : c.getD [] = l.map bg0) (hl : l.length ≤ 4294967295) (x : WW) : t_spec_l18Times c (bg0 x) = some ((cW x l : Nat) : Int) := by
  have hcl : (c.getD []).length = l.length := by rw [hc, List.length_map]
  have lp := loopT_at (step := s0_spec_l18Times c (bg0 x)) l.length (fun k => (((cW x (l.take k) : Nat) : Int), (k : Int))) ((cW x l : Nat) : Int)
    (fun k hk => by
      obtain ⟨y, hy⟩ : ∃ y, l[k]? = some y := ⟨l[k], List.getElem?_eq_getElem hk⟩
      have hg : (c.getD [])[k]? = some (bg0 y) := by rw [hc, List.getElem?_map, hy]; rfl
      have cd : (k : Int) < (((c.getD []).length : Nat) : Int) := by omega
      have ws := wr_succ hk (show l.length ≤ 4294967296 by omega)
      have cl := cW_le x (l.take k)
      have tl : (l.take k).length ≤ l.length := by simp; omega
      have wc : wr (((cW x (l.take k) : Nat) : Int) + 1) = ((cW x (l.take k) + 1 : Nat) : Int) := by rw [wr_id (by omega) (by omega)]; omega
      have sn := cW_snoc x y (l.take k)
      rw [← take_snoc hy] at sn
      unfold s0_spec_l18Times
      simp only [cd, decide_true, cond_true, getI_nat hg, obind_sm, bg0_eq, ws, wc, sn]
      by_cases e : y = x
      · rw [decide_eq_true e, if_pos e, cond_true]
      · rw [decide_eq_false e, if_neg e, cond_false]
        rfl)
    (by
      unfold s0_spec_l18Times
      simp only [hcl, Int.lt_irrefl, decide_false, cond_false, List.take_length])
    0 (Nat.zero_le _)
  have lp' : loopT (s0_spec_l18Times c (bg0 x)) (0, 0) = some ((cW x l : Nat) : Int) := lp
  unfold t_spec_l18Times
  rw [lp', obind_sm]

theorem before_spec (a b : Bigram) : t_spec_l18Before a b = some (before a b) := by
  unfold t_spec_l18Before before
  cases ltS a.first b.first <;> by_cases h : a.first = b.first <;> cases ltS a.second b.second <;> simp [h]

theorem putLoop (l : Sl Bigram) (b : Bigram) (hl : (l.getD []).length ≤ 1000000000) : ∀ (suf pre : List Bigram) (w : Sl Bigram) (d : Bool), l.getD [] = pre ++ suf → (w.getD []).length + 2 * suf.length ≤ 4294967290 →
    ∃ (w' : Sl Bigram) (d' : Bool), loopT (s0_spec_l18Put l b) (w, d, (pre.length : Int)) = some (w', d') ∧ (w'.getD [], d') = putF b suf (w.getD []) d
  | [], pre, w, d, h, _ => by
    refine ⟨w, d, loopT_end ?_, rfl⟩
    have e : (l.getD []).length = pre.length := by rw [h]; simp
    unfold s0_spec_l18Put
    simp only [e, Int.lt_irrefl, decide_false, cond_false]
  | a :: r, pre, w, d, h, hw => by
    have hx : (l.getD [])[pre.length]? = some a := by rw [h]; simp
    have hlt : pre.length < (l.getD []).length := by rw [h]; simp
    simp only [List.length_cons] at hw
    have c : (pre.length : Int) < (((l.getD []).length : Nat) : Int) := by omega
    have len : (pre ++ [a]).length = pre.length + 1 := by simp
    have ws := wr_succ hlt (show (l.getD []).length ≤ 4294967296 by omega)
    have ap1 : appO w [b] = some (appS w [b]) := appO_some (by simp; omega)
    have ap2 : appO w [a] = some (appS w [a]) := appO_some (by simp; omega)
    have ap3 : appO (appS w [b]) [a] = some (appS (appS w [b]) [a]) := appO_some (by rw [appS_getD]; simp; omega)
    have key : ∃ (w1 : Sl Bigram) (d1 : Bool), s0_spec_l18Put l b (w, d, (pre.length : Int)) = some (.inl (w1, d1, (((pre ++ [a]).length : Nat) : Int))) ∧ w1.getD [] = (bif !d && !before a b then w.getD [] ++ [b] else w.getD []) ++ (bif sameB a b then [] else [a]) ∧ d1 = (d || !before a b) := by
      unfold s0_spec_l18Put
      simp only [c, decide_true, cond_true, getI_nat hx, obind_sm, before_spec, len, ws]
      have sb : sameB a b = (decide (a.first = b.first) && decide (a.second = b.second)) := rfl
      rw [sb]
      cases d <;> cases before a b <;> cases decide (a.first = b.first) <;> cases decide (a.second = b.second) <;>
        simp only [Bool.not_true, Bool.not_false, cond_true, cond_false, obind_sm, ap1, ap2, ap3, Bool.and_true, Bool.and_false, Bool.true_and, Bool.false_and] <;>
        exact ⟨_, _, rfl, by simp [appS_getD], rfl⟩
    obtain ⟨w1, d1, k1, k2, k3⟩ := key
    have hb1 : (w1.getD []).length ≤ (w.getD []).length + 2 := by
      rw [k2]
      cases (!d && !before a b) <;> cases sameB a b <;> simp
    obtain ⟨w', d', e1, e2⟩ := putLoop l b hl r (pre ++ [a]) w1 d1 (by rw [h]; simp) (by omega)
    refine ⟨w', d', ?_, ?_⟩
    · rw [loopT_next k1]
      exact e1
    · rw [e2, k2, k3]
      rfl

theorem put_ok (l : Sl Bigram) (b : Bigram) (hl : (l.getD []).length ≤ 1000000000) (hs : (l.getD []).Pairwise fun a c => before a c = true) : ∃ r : Sl Bigram, t_spec_l18Put l b = some r ∧ r.getD [] = putB b (l.getD []) := by
  obtain ⟨w, d, e1, e2⟩ := putLoop l b hl (l.getD []) [] (some []) false rfl (by show 0 + _ ≤ _; omega)
  have e1' : loopT (s0_spec_l18Put l b) ((some ([] : List Bigram)), false, 0) = some (w, d) := e1
  rw [show ((some [] : Sl Bigram).getD []) = [] from rfl, putF_ok b _ _ hs] at e2
  unfold t_spec_l18Put
  rw [e1', obind_sm]
  by_cases c : (l.getD []).all (fun a => before a b) = true
  · rw [if_pos c] at e2
    have h1 : w.getD [] = l.getD [] := congrArg Prod.fst e2
    have h2 : d = false := congrArg Prod.snd e2
    subst h2
    refine ⟨appS w [b], ?_, by rw [appS_getD, h1]; exact putB_end c⟩
    have ap : appO w [b] = some (appS w [b]) := appO_some (by rw [h1]; simp; omega)
    simp only [Bool.not_false, cond_true, ap, obind_sm]
  · rw [if_neg c] at e2
    have h1 : w.getD [] = putB b (l.getD []) := congrArg Prod.fst e2
    have h2 : d = true := congrArg Prod.snd e2
    subst h2
    exact ⟨w, rfl, h1⟩

/-! ### Both models -/
def maxF (l : List Int) : Int := l.foldl max 0

theorem maxF_snoc (l : List Int) (a : Int) : maxF (l ++ [a]) = max (maxF l) a := by simp [maxF]

theorem foldl_max_le : ∀ (l : List Int) (z m : Int), l.foldl max z ≤ m ↔ z ≤ m ∧ ∀ c ∈ l, c ≤ m
  | [], z, m => by simp
  | a :: l, z, m => by
    rw [List.foldl_cons, foldl_max_le l]
    simp only [List.mem_cons, forall_eq_or_imp]
    rw [Int.max_le, and_assoc]

theorem maxF_le {l : List Int} {m : Int} : maxF l ≤ m ↔ 0 ≤ m ∧ ∀ c ∈ l, c ≤ m := foldl_max_le l 0 m

theorem maxF_same {l1 l2 : List Int} (h : ∀ c, c ∈ l1 ↔ c ∈ l2) : maxF l1 = maxF l2 := by
  apply Int.le_antisymm
  · exact maxF_le.2 ⟨(maxF_le.1 (Int.le_refl _)).1, fun c hc => (maxF_le.1 (Int.le_refl (maxF l2))).2 c ((h c).1 hc)⟩
  · exact maxF_le.2 ⟨(maxF_le.1 (Int.le_refl _)).1, fun c hc => (maxF_le.1 (Int.le_refl (maxF l1))).2 c ((h c).2 hc)⟩

def fq (M scale c : Int) : Int := wr ((wr (scale * (wr (M - c)))).tdiv M)

theorem quo_ok {M : Int} (hM : M ≠ 0) (scale c : Int) : quoI (wr (scale * (wr (M - c)))) M = some (fq M scale c) := by
  unfold quoI fq
  rw [decide_eq_false hM, cond_false]

def sc (M scale : Int) (b : Bigram) : Bigram := ⟨b.first, b.second, fq M scale b.cost⟩

theorem s1IM_ok (c : Sl Bigram) (hl : (c.getD []).length ≤ 4294967295) : loopT (s1_impl_CountModel c) (0, 0) = some (maxF ((c.getD []).map fun b => b.cost)) := by
  have lp := loopT_at (step := s1_impl_CountModel c) (c.getD []).length (fun k => (maxF (((c.getD []).take k).map fun b => b.cost), (k : Int))) (maxF ((c.getD []).map fun b => b.cost))
    (fun k hk => by
      obtain ⟨y, hy⟩ : ∃ y, (c.getD [])[k]? = some y := ⟨(c.getD [])[k], List.getElem?_eq_getElem hk⟩
      have cd : (k : Int) < (((c.getD []).length : Nat) : Int) := by omega
      have ts : (c.getD []).take (k + 1) = (c.getD []).take k ++ [y] := by
        obtain ⟨h, e⟩ := List.getElem?_eq_some_iff.1 hy
        rw [List.take_succ_eq_append_getElem h, e]
      unfold s1_impl_CountModel
      simp only [cd, decide_true, cond_true, getI_nat hy, obind_sm, wr_succ hk (show (c.getD []).length ≤ 4294967296 by omega), ts, List.map_append, List.map_cons, List.map_nil, maxF_snoc])
    (by
      unfold s1_impl_CountModel
      simp only [Int.lt_irrefl, decide_false, cond_false, List.take_length])
    0 (Nat.zero_le _)
  exact lp

theorem s1SM_ok (l : List WW) (c : Sl Bigram) (hc : c.getD [] = l.map bg0) (hl : l.length ≤ 4294967295) : loopT (s1_spec_CountModel c) (0, 0) = some (maxF (l.map fun x => ((cW x l : Nat) : Int))) := by
  have hcl : (c.getD []).length = l.length := by rw [hc, List.length_map]
  have lp := loopT_at (step := s1_spec_CountModel c) l.length (fun k => (maxF ((l.take k).map fun x => ((cW x l : Nat) : Int)), (k : Int))) (maxF (l.map fun x => ((cW x l : Nat) : Int)))
    (fun k hk => by
      obtain ⟨y, hy⟩ : ∃ y, l[k]? = some y := ⟨l[k], List.getElem?_eq_getElem hk⟩
      have hg : (c.getD [])[k]? = some (bg0 y) := by rw [hc, List.getElem?_map, hy]; rfl
      have cd : (k : Int) < (((c.getD []).length : Nat) : Int) := by omega
      unfold s1_spec_CountModel
      simp only [cd, decide_true, cond_true, getI_nat hg, obind_sm, times_ok l c hc hl, wr_succ hk (show l.length ≤ 4294967296 by omega), take_snoc hy, List.map_append, List.map_cons, List.map_nil, maxF_snoc])
    (by
      unfold s1_spec_CountModel
      simp only [hcl, Int.lt_irrefl, decide_false, cond_false, List.take_length])
    0 (Nat.zero_le _)
  exact lp

theorem s2IM_ok (c : Sl Bigram) (hl : (c.getD []).length ≤ 4294967295) (M scale : Int) (hM : ∀ b ∈ c.getD [], M ≠ 0) : ∃ r : Sl Bigram, loopT (s2_impl_CountModel scale c M) (c, 0) = some r ∧ r.getD [] = (c.getD []).map (sc M scale) := by
  exact loopT_ex (step := s2_impl_CountModel scale c M) (fun k t => ∃ w1 : Sl Bigram, t = (w1, (k : Int)) ∧ w1.getD [] = ((c.getD []).take k).map (sc M scale) ++ (c.getD []).drop k) (c.getD []).length (fun r => r.getD [] = (c.getD []).map (sc M scale))
    (fun k t hk ⟨w1, ht, G⟩ => by
      subst ht
      obtain ⟨y, hy⟩ : ∃ y, (c.getD [])[k]? = some y := ⟨(c.getD [])[k], List.getElem?_eq_getElem hk⟩
      have cd : (k : Int) < (((c.getD []).length : Nat) : Int) := by omega
      have hM' := hM y (List.mem_of_getElem? hy)
      obtain ⟨h, e⟩ := List.getElem?_eq_some_iff.1 hy
      have ts : (c.getD []).take (k + 1) = (c.getD []).take k ++ [y] := by rw [List.take_succ_eq_append_getElem h, e]
      have dr : (c.getD []).drop k = y :: (c.getD []).drop (k + 1) := by rw [List.drop_eq_getElem_cons h, e]
      have tl : (((c.getD []).take k).map (sc M scale)).length = k := by simp; omega
      have hg : (w1.getD [])[k]? = some y := by
        rw [G, List.getElem?_append_right (by omega), tl, Nat.sub_self, dr]
        rfl
      refine .inl ⟨(setS w1 (k : Int) (sc M scale y), ((k + 1 : Nat) : Int)), ?_, _, rfl, ?_⟩
      · unfold s2_impl_CountModel
        simp only [cd, decide_true, cond_true, getI_nat hg, obind_sm, quo_ok hM', wr_succ hk (show (c.getD []).length ≤ 4294967296 by omega)]
        rfl
      · rw [setS_nat, G, ts, List.set_append_right _ _ (by omega), tl, Nat.sub_self, dr]
        simp)
    (fun t ⟨w1, ht, G⟩ => by
      subst ht
      refine ⟨w1, ?_, by rw [G, List.take_length, List.drop_length, List.append_nil]⟩
      unfold s2_impl_CountModel
      simp only [Int.lt_irrefl, decide_false, cond_false])
    (s := (c, 0)) ⟨c, rfl, by simp⟩

/-- What a pair's entry is in the end. -/
def resW (M scale : Int) (l : List WW) (x : WW) : Bigram := ⟨x.1, x.2, fq M scale ((cW x l : Nat) : Int)⟩

theorem s2SM_ok (l : List WW) (c : Sl Bigram) (hc : c.getD [] = l.map bg0) (hl : l.length ≤ 10000000) (M scale other : Int) (hM : ∀ x ∈ l, M ≠ 0) :
    ∃ r : Int × Sl Bigram, loopT (s2_spec_CountModel scale c M) (other, (none : Sl Bigram), 0) = some r ∧ r.1 = other ∧ (r.2.getD []).Pairwise (fun a b => before a b = true) ∧ (∀ b, b ∈ r.2.getD [] ↔ ∃ x ∈ l, b = resW M scale l x) := by
  have hcl : (c.getD []).length = l.length := by rw [hc, List.length_map]
  exact loopT_ex (step := s2_spec_CountModel scale c M) (fun k t => ∃ w1 : Sl Bigram, t = (other, w1, (k : Int)) ∧ (w1.getD []).length ≤ k ∧ (w1.getD []).Pairwise (fun a b => before a b = true) ∧ (∀ b, b ∈ w1.getD [] ↔ ∃ x ∈ l.take k, b = resW M scale l x)) l.length
    (fun r => r.1 = other ∧ (r.2.getD []).Pairwise (fun a b => before a b = true) ∧ (∀ b, b ∈ r.2.getD [] ↔ ∃ x ∈ l, b = resW M scale l x))
    (fun k t hk ⟨w1, ht, g1, g2, g3⟩ => by
      subst ht
      obtain ⟨y, hy⟩ : ∃ y, l[k]? = some y := ⟨l[k], List.getElem?_eq_getElem hk⟩
      have hg : (c.getD [])[k]? = some (bg0 y) := by rw [hc, List.getElem?_map, hy]; rfl
      have cd : (k : Int) < (((c.getD []).length : Nat) : Int) := by omega
      have hM' := hM y (List.mem_of_getElem? hy)
      obtain ⟨w2, e1, e2⟩ := put_ok w1 (resW M scale l y) (by omega) g2
      have e1' : t_spec_l18Put w1 (⟨(bg0 y).first, (bg0 y).second, fq M scale ((cW y l : Nat) : Int)⟩ : Bigram) = some w2 := e1
      have ts := take_snoc hy
      refine .inl ⟨(other, w2, ((k + 1 : Nat) : Int)), ?_, w2, rfl, ?_, ?_, fun b => ?_⟩
      · unfold s2_spec_CountModel
        simp only [cd, decide_true, cond_true, getI_nat hg, obind_sm, times_ok l c hc (by omega), quo_ok hM', e1', wr_succ hk (show l.length ≤ 4294967296 by omega)]
      · rw [e2]
        have := putB_len (resW M scale l y) (w1.getD [])
        omega
      · rw [e2]
        exact putB_sorted g2
      · rw [e2, putB_mem, ts, g3]
        constructor
        · rintro (h | ⟨⟨x, hx, h⟩, _⟩)
          · exact ⟨y, List.mem_append_right _ List.mem_cons_self, h⟩
          · exact ⟨x, List.mem_append_left _ hx, h⟩
        · rintro ⟨x, hx, h⟩
          rcases List.mem_append.1 hx with q | q
          · by_cases e : x = y
            · subst e
              exact .inl h
            · refine .inr ⟨⟨x, q, h⟩, ?_⟩
              subst h
              obtain ⟨a, b⟩ := x
              obtain ⟨p, q⟩ := y
              show (decide (a = p) && decide (b = q)) = false
              by_cases h1 : a = p
              · by_cases h2 : b = q
                · subst h1 h2
                  exact absurd rfl e
                · rw [decide_eq_false h2, Bool.and_false]
              · rw [decide_eq_false h1, Bool.false_and]
          · rw [List.mem_singleton] at q
            subst q
            exact .inl h)
    (fun t ⟨w1, ht, g1, g2, g3⟩ => by
      subst ht
      refine ⟨(other, w1), ?_, rfl, g2, fun b => by rw [List.take_length] at g3; exact g3 b⟩
      unfold s2_spec_CountModel
      simp only [hcl, Int.lt_irrefl, decide_false, cond_false])
    (s := (other, (none : Sl Bigram), 0)) ⟨none, rfl, Nat.zero_le _, List.Pairwise.nil, fun b => by simp⟩

/-! ### Texts of marks -/
theorem mark_dig : ∀ r : Fin 10, byteI (wr (48 + ((r.val : Nat) : Int))) = (48 + r.val).toUInt8 := by decide +kernel

theorem markLoop : ∀ (k : Nat) (out : ByteArray), k + out.size ≤ 1000000000 → loopT s0_laws_markText ((k : Int), out) = some (digT k out) := by
  intro k out
  induction k, out using digT.induct with
  | case1 out =>
    intro _
    rw [digT, dif_pos rfl]
    refine loopT_end ?_
    unfold s0_laws_markText
    rfl
  | case2 k out h ih =>
    intro hs
    rw [digT, dif_neg h]
    have sz : ((⟨#[(48 + k % 10).toUInt8]⟩ : ByteArray) ++ out).size = 1 + out.size := size_one _ _
    have c : decide ((0 : Int) < (k : Int)) = true := decide_eq_true (by omega)
    have m1 : Int.tmod (k : Int) 10 = ((k % 10 : Nat) : Int) := rfl
    have m2 : Int.tdiv (k : Int) 10 = ((k / 10 : Nat) : Int) := rfl
    have w : wr ((k / 10 : Nat) : Int) = ((k / 10 : Nat) : Int) := wr_id (by omega) (by omega)
    have b : byteI (wr (48 + ((k % 10 : Nat) : Int))) = (48 + k % 10).toUInt8 := mark_dig ⟨k % 10, by omega⟩
    have ct : catO (strL ((some ([(48 + k % 10).toUInt8] : List UInt8)).getD [])) out = some ((⟨#[(48 + k % 10).toUInt8]⟩ : ByteArray) ++ out) := by
      unfold catO
      rw [if_pos (by
        show (((⟨#[(48 + k % 10).toUInt8]⟩ : ByteArray).size + out.size : Nat) : Int) ≤ _
        have : (⟨#[(48 + k % 10).toUInt8]⟩ : ByteArray).size = 1 := rfl
        omega)]
      rfl
    rw [loopT_next (s' := (((k / 10 : Nat) : Int), (⟨#[(48 + k % 10).toUInt8]⟩ : ByteArray) ++ out))]
    · exact ih (by rw [sz]; omega)
    · unfold s0_laws_markText
      simp only [c, cond_true, m1, m2, w, b, ct, obind_sm]

theorem markText_ok {k : Nat} (h : k ≤ 100000000) : t_laws_markText (k : Int) = some (markT k) := by
  unfold t_laws_markText markT
  by_cases h0 : k = 0
  · subst h0
    rfl
  · have c : decide ((k : Int) ≤ 0) = false := decide_eq_false (by omega)
    have d : decide (k = 0) = false := decide_eq_false h0
    have sz := digT_size k ⟨#[]⟩
    have e : (⟨#[]⟩ : ByteArray).size = 0 := rfl
    have ct : catO (⟨#[109]⟩ : ByteArray) (digT k ⟨#[]⟩) = some ((⟨#[109]⟩ : ByteArray) ++ digT k ⟨#[]⟩) := by
      unfold catO
      rw [if_pos (by
        have : (⟨#[109]⟩ : ByteArray).size = 1 := rfl
        omega)]
    rw [c, d, cond_false, cond_false, markLoop k ⟨#[]⟩ (by omega), obind_sm, ct, obind_sm]

theorem mkBg_get : ∀ (n k i : Nat), i < n → (mkBg k n)[i]? = some ⟨markT (k + 3 * i), markT (k + 3 * i + 1), ((k + 3 * i + 2 : Nat) : Int)⟩
  | 0, _, _, h => by omega
  | n + 1, k, 0, _ => by simp [mkBg]
  | n + 1, k, i + 1, h => by
    have := mkBg_get n (k + 3) i (by omega)
    simp only [mkBg, List.getElem?_cons_succ, this]
    have e : k + 3 + 3 * i = k + 3 * (i + 1) := by omega
    rw [e]

theorem heldBg_ok {s : Sl Bigram} {n : Nat} (hs : s.getD [] = mkBg 1 n) (hn : n ≤ 2000000) : t_laws_heldBigramS s 1 = some (1 + 3 * (n : Int)) := by
  have lp := loopT_at (step := s0_laws_heldBigramS s) n (fun k => (((1 + 3 * k : Nat) : Int), (k : Int))) (.inl ((1 + 3 * n : Nat) : Int))
    (fun k hk => by
      have c : (k : Int) < (((mkBg 1 n).length : Nat) : Int) := by rw [mkBg_len]; omega
      have ws := wr_succ hk (by omega)
      have w1 : wr (((1 + 3 * k : Nat) : Int) + 1) = ((1 + 3 * k + 1 : Nat) : Int) := by rw [wr_id (by omega) (by omega)]; omega
      have w2 : wr (((1 + 3 * k + 1 : Nat) : Int) + 1) = ((1 + 3 * k + 2 : Nat) : Int) := by rw [wr_id (by omega) (by omega)]; omega
      have w3 : wr (((1 + 3 * k + 2 : Nat) : Int) + 1) = ((1 + 3 * (k + 1) : Nat) : Int) := by rw [wr_id (by omega) (by omega)]; omega
      unfold s0_laws_heldBigramS
      simp only [hs, c, decide_true, cond_true, getI_nat (mkBg_get n 1 k hk), obind_sm, Bool.not_true, cond_false, ws, w1, w2, w3, markText_ok (show 1 + 3 * k ≤ 100000000 by omega), markText_ok (show 1 + 3 * k + 1 ≤ 100000000 by omega)])
    (by
      have c : ¬ (n : Int) < (((mkBg 1 n).length : Nat) : Int) := by rw [mkBg_len]; omega
      unfold s0_laws_heldBigramS
      simp only [hs, c, decide_false, cond_false])
    0 (Nat.zero_le _)
  have lp' : loopT (s0_laws_heldBigramS s) (1, 0) = some (.inl ((1 + 3 * n : Nat) : Int)) := lp
  have e : ((1 + 3 * n : Nat) : Int) = 1 + 3 * (n : Int) := by omega
  unfold t_laws_heldBigramS
  rw [lp', obind_sm, e]

theorem markBg_ok (s : Sl Bigram) (d : Int) (hl : (s.getD []).length ≤ 1000) : ∃ v : Sl Bigram, t_laws_markBigramS s 1 = some (1 + 3 * (((s.getD []).length : Nat) : Int), v) ∧ t_laws_heldModel ⟨d, v⟩ 1 = some (1 + 3 * (((s.getD []).length : Nat) : Int)) := by
  refine ⟨s.map fun l => mkBg 1 l.length, ?_, ?_⟩
  · unfold t_laws_markBigramS
    have d2 : decide (1 + 3 * (((s.getD []).length : Nat) : Int) ≤ 100000000) = true := decide_eq_true (by omega)
    rw [d2]
    rfl
  · have g : (s.map fun l => mkBg 1 l.length).getD [] = mkBg 1 (s.getD []).length := by cases s <;> rfl
    have h := heldBg_ok g (by omega)
    have d : decide (1 + 3 * (((s.getD []).length : Nat) : Int) < 0) = false := decide_eq_false (by omega)
    unfold t_laws_heldModel
    simp only [h, obind_sm, d, cond_false]

def totS (l : List (Sl ByteArray)) : Nat := (l.map fun a => (a.getD []).length).sum

theorem mkLS_ok : ∀ (l : List (Sl ByteArray)) (k : Nat), k + totS l ≤ 100000000 → ∃ l', mkLS l (k : Int) = some (((k + totS l : Nat) : Int), l')
  | [], k, _ => ⟨[], rfl⟩
  | a :: l, k, h => by
    have e : totS (a :: l) = (a.getD []).length + totS l := by simp [totS]
    rw [e] at h
    have m1 : t_laws_markStringS a (k : Int) = some (((k + (a.getD []).length : Nat) : Int), a.map fun l => mkSt k l.length) := by
      unfold t_laws_markStringS
      have d1 : decide ((0 : Int) ≤ (k : Int)) = true := decide_eq_true (by omega)
      have d2 : decide ((k : Int) + 1 * (((a.getD []).length : Nat) : Int) ≤ 100000000) = true := decide_eq_true (by omega)
      have e3 : (k : Int) + 1 * (((a.getD []).length : Nat) : Int) = ((k + (a.getD []).length : Nat) : Int) := by omega
      rw [d1, d2, e3]
      rfl
    obtain ⟨l', h'⟩ := mkLS_ok l (k + (a.getD []).length) (by omega)
    refine ⟨(a.map fun l => mkSt k l.length) :: l', ?_⟩
    unfold mkLS
    rw [m1, obind_sm, h', obind_sm, e, Nat.add_assoc]

theorem marksSS_ok (s : Sl (Sl ByteArray)) (hl : (s.getD []).length ≤ 4294967296) (ht : totS (s.getD []) ≤ 90000000) : ∃ (r : Int) (v : Sl (Sl ByteArray)), t_laws_markStringSS s 1 = some (r, v) ∧ 0 ≤ r := by
  unfold t_laws_markStringSS
  rw [decide_eq_true hl, cond_true]
  cases s with
  | none => exact ⟨1, none, rfl, by decide⟩
  | some l =>
    obtain ⟨l', h⟩ := mkLS_ok l 1 (by simp only [Option.getD_some] at ht; omega)
    have h' : mkLS l 1 = some (((1 + totS l : Nat) : Int), l') := h
    refine ⟨((1 + totS l : Nat) : Int), some l', ?_, by omega⟩
    show obind (mkLS l 1) _ = _
    rw [h', obind_sm]

/-! ### Tables of texts: copies, sizes, comparisons -/
theorem szStringSS_ok {s : Sl (Sl ByteArray)} (hb : (s.getD []).length ≤ maxLen) (he : ∀ l ∈ s.getD [], (l.getD []).length ≤ maxLen ∧ ∀ a ∈ l.getD [], a.size ≤ maxLen) : SzOK t_laws_szStringSS (wtS (wtS fun a : ByteArray => a.size)) s :=
  szS_ok (te := t_laws_szStringS) hb (fun a ha => szStringS_ok (he a ha).1 (he a ha).2) (step := s0_laws_szStringSS s) (fun k => rfl) (fun w i a ha => by
    have hk := get_lt ha
    have c : (i : Int) < (((s.getD []).length : Nat) : Int) := by omega
    unfold s0_laws_szStringSS
    simp only [c, decide_true, cond_true, getI_nat ha, obind_sm]) (fun w => by
    unfold s0_laws_szStringSS
    simp only [Int.lt_irrefl, decide_false, cond_false])

def ownS (l : Sl ByteArray) : Sl ByteArray := some (l.getD [])

theorem toStringSS_ok (a : Sl (Sl ByteArray)) (hl : (a.getD []).length ≤ 4294967296) (he : ∀ l ∈ a.getD [], (l.getD []).length ≤ 4294967296) : t_laws_toStringSS a = some (some ((a.getD []).map ownS)) := by
  have lp := mapLoop (none : Sl ByteArray) ownS (a.getD []) hl (s0_laws_toStringSS a) (fun M k x hM hx => by
    have hk := get_lt hx
    have c : (k : Int) < (((a.getD []).length : Nat) : Int) := by omega
    obtain ⟨y, hy⟩ : ∃ y, M[k]? = some y := ⟨M[k]'(by omega), List.getElem?_eq_getElem _⟩
    have t := toStringS_ok x (he x (List.mem_of_getElem? hx))
    rw [List.map_id'] at t
    unfold s0_laws_toStringSS
    simp only [c, decide_true, cond_true, getI_nat hx, obind_sm, Option.getD_some, getI_nat hy, setS, Option.map_some, Int.toNat_natCast, t, ownS]) (fun w => by
    unfold s0_laws_toStringSS
    simp only [Int.lt_irrefl, decide_false, cond_false])
  unfold t_laws_toStringSS
  rw [make_len _ hl, obind_sm, lp, obind_sm]

theorem eqStringSS_ok {a b : Sl (Sl ByteArray)} (h : a.getD [] = b.getD []) (hl : (a.getD []).length ≤ 4294967296) (he : ∀ l ∈ a.getD [], (l.getD []).length ≤ 4294967296) : t_laws_eqStringSS a b = some true := by
  have lp := eqLoop (step := s0_laws_eqStringSS a b) (a.getD []).length hl (fun k hk => by
      have c : (k : Int) < ((a.getD []).length : Nat) := by omega
      obtain ⟨x, hx⟩ : ∃ x, (a.getD [])[k]? = some x := ⟨_, List.getElem?_eq_getElem hk⟩
      unfold s0_laws_eqStringSS
      simp only [c, decide_true, cond_true, getI_nat hx, ← h, obind_sm, Bool.not_true, cond_false, eqStringS_ok (a := x) (b := x) rfl (he x (List.mem_of_getElem? hx))])
    (by
      unfold s0_laws_eqStringSS
      simp only [Int.lt_irrefl, decide_false, cond_false])
  unfold t_laws_eqStringSS
  rw [lp, ← h]
  simp

/-! ### Both models, whole -/
theorem firstB {R : Type} (p : ByteArray → Bool) (f : Nat → R) : ∀ (l : List ByteArray) (k : Nat), (firstL (fun i s => bif !p s then some (f i) else none) l k).isNone = l.all p
  | [], _ => rfl
  | a :: l, k => by
    unfold firstL
    rw [List.all_cons]
    cases p a with
    | false => rfl
    | true => simpa using firstB p f l (k + 1)

theorem containsW_ok (a : Sl ByteArray) (hl : (a.getD []).length ≤ 4294967296) (hw : ∀ s ∈ a.getD [], s.size ≤ 4294967296) : t_slices_ContainsFunc_string_string t_impl_CountModel_1 a = some (!(a.getD []).all isWord) := by
  have lp := loopT_first (step := s0_slices_IndexFunc_string_string t_impl_CountModel_1 a) (a.getD []) (fun k s => bif !isWord s then some (k : Int) else none) (.inl ()) .inr
    (fun k x hx => by
      have hk := get_lt hx
      have c : (k : Int) < (((a.getD []).length : Nat) : Int) := by omega
      have e : t_impl_CountModel_1 x = some (!isWord x) := by
        unfold t_impl_CountModel_1
        rw [implWord_ok (hw x (List.mem_of_getElem? hx)), obind_sm]
      unfold s0_slices_IndexFunc_string_string
      simp only [c, decide_true, cond_true, getI_nat hx, obind_sm, e, wr_succ hk hl]
      cases isWord x <;> rfl)
    (by
      unfold s0_slices_IndexFunc_string_string
      simp only [Int.lt_irrefl, decide_false, cond_false])
  have fb := firstB isWord (fun k => (k : Int)) (a.getD []) 0
  unfold t_slices_ContainsFunc_string_string t_slices_IndexFunc_string_string
  rw [lp, ← fb]
  cases e : firstL (fun k s => bif !isWord s then some (k : Int) else none) (a.getD []) 0 with
  | none => rfl
  | some r =>
    obtain ⟨i, s, hi⟩ := firstL_so e
    have hr : 0 ≤ r := by
      cases q : isWord s <;> rw [q] at hi <;> cases hi
      omega
    simp only [obind_sm, Option.isNone_some, Bool.not_false]
    rw [decide_eq_true hr]

theorem plain_ok (a : Sl ByteArray) (hl : (a.getD []).length ≤ 4294967296) (hw : ∀ s ∈ a.getD [], s.size ≤ 4294967296) : t_spec_l18Plain a = some ((a.getD []).all isWord) := by
  have lp := loopT_first (step := s0_spec_l18Plain a) (a.getD []) (fun _ s => bif !isWord s then some false else none) (.inl ()) .inr
    (fun k x hx => by
      have hk := get_lt hx
      have c : (k : Int) < (((a.getD []).length : Nat) : Int) := by omega
      unfold s0_spec_l18Plain
      simp only [c, decide_true, cond_true, getI_nat hx, obind_sm, specWord_ok (hw x (List.mem_of_getElem? hx)), wr_succ hk hl]
      cases isWord x <;> rfl)
    (by
      unfold s0_spec_l18Plain
      simp only [Int.lt_irrefl, decide_false, cond_false])
  have fb := firstB isWord (fun _ => false) (a.getD []) 0
  unfold t_spec_l18Plain
  rw [lp, ← fb]
  cases e : firstL (fun _ s => bif !isWord s then some false else none) (a.getD []) 0 with
  | none => rfl
  | some r =>
    obtain ⟨i, s, hi⟩ := firstL_so e
    have hr : r = false := by
      cases q : isWord s <;> rw [q] at hi <;> cases hi
      rfl
    subst hr
    rfl

structure SSok (ss : Sl (Sl ByteArray)) : Prop where
  len : (ss.getD []).length ≤ 1048576
  row : ∀ a ∈ ss.getD [], (a.getD []).length ≤ 1048576
  txt : ∀ a ∈ ss.getD [], ∀ s ∈ a.getD [], s.size ≤ 1048576
  tot : (prsA (ss.getD [])).length ≤ 1048576

theorem model_both (ss : Sl (Sl ByteArray)) (scale other : Int) (H : SSok ss) : ∃ (m m2 : Model) (code : Int), t_impl_CountModel ss scale other = some (m, code) ∧ t_spec_CountModel ss scale other = some (m2, code) ∧ m.default = m2.default ∧ m.bigrams.getD [] = m2.bigrams.getD [] ∧ (m.bigrams.getD []).length ≤ 60 := by
  have hl := H.len
  have bad : ∀ a ∈ ss.getD [], t_slices_ContainsFunc_string_string t_impl_CountModel_1 a = some (!(a.getD []).all isWord) ∧ t_spec_l18Plain a = some ((a.getD []).all isWord) := fun a ha =>
    ⟨containsW_ok a (by have := H.row a ha; omega) (fun s hs => by have := H.txt a ha s hs; omega), plain_ok a (by have := H.row a ha; omega) (fun s hs => by have := H.txt a ha s hs; omega)⟩
  have l1 := loopT_first (step := s0_impl_CountModel ss) (ss.getD []) (fun _ a => bif !(a.getD []).all isWord then some (7 : Int) else none) (.inl ()) .inr
    (fun k x hx => by
      have hk := get_lt hx
      have c : (k : Int) < (((ss.getD []).length : Nat) : Int) := by omega
      unfold s0_impl_CountModel
      simp only [c, decide_true, cond_true, getI_nat hx, obind_sm, (bad x (List.mem_of_getElem? hx)).1, wr_succ hk (show (ss.getD []).length ≤ 4294967296 by omega)]
      cases (x.getD []).all isWord <;> rfl)
    (by
      unfold s0_impl_CountModel
      simp only [Int.lt_irrefl, decide_false, cond_false])
  have l2 := loopT_first (step := s0_spec_CountModel ss) (ss.getD []) (fun _ a => bif !(a.getD []).all isWord then some (7 : Int) else none) (.inl ()) .inr
    (fun k x hx => by
      have hk := get_lt hx
      have c : (k : Int) < (((ss.getD []).length : Nat) : Int) := by omega
      unfold s0_spec_CountModel
      simp only [c, decide_true, cond_true, getI_nat hx, obind_sm, (bad x (List.mem_of_getElem? hx)).2, wr_succ hk (show (ss.getD []).length ≤ 4294967296 by omega)]
      cases (x.getD []).all isWord <;> rfl)
    (by
      unfold s0_spec_CountModel
      simp only [Int.lt_irrefl, decide_false, cond_false])
  unfold t_impl_CountModel t_spec_CountModel
  rw [l1, l2, obind_sm, obind_sm]
  cases firstL (fun _ a => bif !(a.getD []).all isWord then some (7 : Int) else none) (ss.getD []) 0 with
  | some r => exact ⟨⟨0, none⟩, ⟨0, none⟩, r, rfl, rfl, rfl, rfl, Nat.zero_le _⟩
  | none =>
    show ∃ (m m2 : Model) (code : Int), (obind (some (within scale 0 1000000)) fun c12 => obind (bif !c12 then some false else (obind (some (within other 0 1000000)) fun c14 => some (!c14))) fun c15 => bif (bif !c12 then true else c15) then _ else _) = some (m, code) ∧ (obind (some (within scale 0 1000000)) fun c12 => obind (bif !c12 then some false else (obind (some (within other 0 1000000)) fun c14 => some (!c14))) fun c15 => bif (bif !c12 then true else c15) then _ else _) = some (m2, code) ∧ _
    rw [obind_sm, obind_sm, obind_sm]
    cases within scale 0 1000000 with
    | false => exact ⟨⟨0, none⟩, ⟨0, none⟩, 2, rfl, rfl, rfl, rfl, Nat.zero_le _⟩
    | true =>
      cases within other 0 1000000 with
      | false => exact ⟨⟨0, none⟩, ⟨0, none⟩, 2, rfl, rfl, rfl, rfl, Nat.zero_le _⟩
      | true =>
        simp only [Bool.not_true, cond_false, obind_sm]
        obtain ⟨A, a1, G⟩ := countPairs_ok ss hl H.row (by have := H.tot; omega)
        obtain ⟨c, c1, c2⟩ := s0S_ok ss (by omega) (fun a h => by have := H.row a h; omega) (ss.getD []) [] (some []) rfl (by have := H.tot; show 0 + _ ≤ _; omega)
        have c1' : t_spec_l18Pairs ss = some c := by
          have e : loopT (s0_spec_l18Pairs ss) ((some ([] : List Bigram)), 0) = some c := c1
          unfold t_spec_l18Pairs
          rw [e, obind_sm]
        have c2' : c.getD [] = (prsA (ss.getD [])).map bg0 := by rw [c2]; rfl
        have ht := H.tot
        generalize prsA (ss.getD []) = l at *
        have gl := G.len
        -- the greatest count
        have same : maxF ((A.getD []).map fun b => b.cost) = maxF (l.map fun x => ((cW x l : Nat) : Int)) := maxF_same fun v => by
          constructor
          · intro h
            obtain ⟨b, hb, rfl⟩ := List.mem_map.1 h
            obtain ⟨x, hx, rfl⟩ := G.mem b hb
            exact List.mem_map.2 ⟨x, hx, rfl⟩
          · intro h
            obtain ⟨x, hx, rfl⟩ := List.mem_map.1 h
            exact List.mem_map.2 ⟨_, G.all x hx, rfl⟩
        have m1 := s1IM_ok A (by omega)
        have m2 := s1SM_ok l c c2' (by omega)
        rw [same] at m1
        generalize hM : maxF (l.map fun x => ((cW x l : Nat) : Int)) = M at *
        have pos : ∀ x ∈ l, M ≠ 0 := fun x hx e => by
          have h1 := (maxF_le.1 (Int.le_of_eq hM)).2 _ (List.mem_map.2 ⟨x, hx, rfl⟩)
          have h2 := cW_pos hx
          omega
        obtain ⟨A2, p1, p2⟩ := s2IM_ok A (by omega) M scale (fun b hb => by
          obtain ⟨x, hx, _⟩ := G.mem b hb
          exact pos x hx)
        obtain ⟨⟨o, P⟩, q1, q2, q3, q4⟩ := s2SM_ok l c c2' (by omega) M scale other pos
        have q2' : o = other := q2
        subst q2'
        have q3' : (P.getD []).Pairwise (fun a b => before a b = true) := q3
        have q4' : ∀ b, b ∈ P.getD [] ↔ ∃ x ∈ l, b = resW M scale l x := q4
        have eq : A2.getD [] = P.getD [] := by
          refine sorted_ext ?_ q3' fun b => ?_
          · rw [p2]
            exact G.srt.map _ fun a b h => h
          · rw [p2, q4', List.mem_map]
            constructor
            · rintro ⟨a, ha, rfl⟩
              obtain ⟨x, hx, rfl⟩ := G.mem a ha
              exact ⟨x, hx, rfl⟩
            · rintro ⟨x, hx, rfl⟩
              exact ⟨_, G.all x hx, rfl⟩
        have elen : (P.getD []).length = (A.getD []).length := by rw [← eq, p2, List.length_map]
        rw [a1, c1', obind_sm, obind_sm, m2, obind_sm, q1, obind_sm]
        show ∃ (m m2 : Model) (code : Int), (bif decide (60 < (((A.getD []).length : Nat) : Int)) then some ((⟨0, (none : Sl Bigram)⟩ : Model), 5) else obind (loopT (s1_impl_CountModel A) (0, 0)) fun q39 => obind (loopT (s2_impl_CountModel scale A q39) (A, 0)) fun q47 => some ((⟨o, q47⟩ : Model), 0)) = some (m, code) ∧ (bif decide (60 < (((P.getD []).length : Nat) : Int)) then some ((⟨0, (none : Sl Bigram)⟩ : Model), 5) else some ((⟨o, P⟩ : Model), 0)) = some (m2, code) ∧ _
        rw [m1, elen]
        by_cases big : (60 : Int) < (((A.getD []).length : Nat) : Int)
        · rw [decide_eq_true big]
          exact ⟨⟨0, none⟩, ⟨0, none⟩, 5, rfl, rfl, rfl, rfl, Nat.zero_le _⟩
        · rw [decide_eq_false big]
          refine ⟨⟨o, A2⟩, ⟨o, P⟩, 0, ?_, rfl, rfl, eq, by show (A2.getD []).length ≤ 60; rw [eq, elen]; omega⟩
          rw [cond_false, obind_sm, p1, obind_sm]

theorem prsA_own (l : List (Sl ByteArray)) : prsA (l.map ownS) = prsA l := by
  unfold prsA
  rw [List.flatMap_map]
  rfl

theorem prsA_len (l : List (Sl ByteArray)) : (prsA l).length = totS l := by
  unfold prsA totS
  rw [List.length_flatMap]
  congr 1
  exact List.map_congr_left fun a _ => prs_len _ _

/-! ### The law of CountModel -/
theorem true_FnExactCountModel (a : Sl (Sl ByteArray)) (scale other : Int) (ha : Wt.big a = true) : t_laws_FnExactCountModel a scale other = some true := by
  have Z1 := szStringSS_ok (s := a) (big_len ha) (fun l hl => by
    have b : Wt.big l = true := big_mem ha hl
    exact ⟨big_len b, fun e he => of_decide_eq_true (p := e.size ≤ maxLen) (big_mem b he)⟩) 1048576 (by omega) (by omega)
  have neg : decide ((-1 : Int) < 0) = true := rfl
  unfold t_laws_FnExactCountModel
  rcases Z1 with z1 | ⟨k1, z1⟩
  · rw [z1, obind_sm, neg, cond_true]
  rw [z1, obind_sm, decide_eq_false (by omega), cond_false]
  have la : (a.getD []).length ≤ 1048576 := by
    have := mem_len (wt := wtS fun e : ByteArray => e.size) a
    omega
  have ea : ∀ l ∈ a.getD [], (l.getD []).length ≤ 1048576 := fun l hl => by
    have h1 : wtS (fun e : ByteArray => e.size) l ≤ wtS (wtS fun e : ByteArray => e.size) a := wt_mem hl
    have h2 := mem_len (wt := fun e : ByteArray => e.size) l
    omega
  have et : ∀ l ∈ a.getD [], ∀ s ∈ l.getD [], s.size ≤ 1048576 := fun l hl s hs => by
    have h1 : wtS (fun e : ByteArray => e.size) l ≤ wtS (wtS fun e : ByteArray => e.size) a := wt_mem hl
    have h2 : s.size ≤ wtS (fun e : ByteArray => e.size) l := wt_mem (wt := fun e : ByteArray => e.size) hs
    omega
  have tot : totS (a.getD []) ≤ 1048576 := by
    have h : ∀ l : List (Sl ByteArray), totS l ≤ (l.map (wtS fun e : ByteArray => e.size)).sum := fun l => by
      induction l with
      | nil => exact Nat.le_refl _
      | cons x r ih =>
        have := mem_len (wt := fun e : ByteArray => e.size) x
        have e1 : totS (x :: r) = (x.getD []).length + totS r := by simp [totS]
        rw [e1, List.map_cons, List.sum_cons]
        omega
    have h2 := h (a.getD [])
    have h3 : wtS (wtS fun e : ByteArray => e.size) a = (a.getD []).length + ((a.getD []).map (wtS fun e : ByteArray => e.size)).sum := rfl
    omega
  have T1 := toStringSS_ok a (by omega) (fun l hl => by have := ea l hl; omega)
  have own : ∀ l ∈ (some ((a.getD []).map ownS) : Sl (Sl ByteArray)).getD [], (l.getD []).length ≤ 4294967296 := fun l hl => by
    obtain ⟨l', h1, rfl⟩ := List.mem_map.1 hl
    have := ea l' h1
    show (l'.getD []).length ≤ _
    omega
  have Q1 := eqStringSS_ok (a := some ((a.getD []).map ownS)) (b := some ((a.getD []).map ownS)) rfl (by show ((a.getD []).map ownS).length ≤ _; rw [List.length_map]; omega) own
  have tO : totS ((some ((a.getD []).map ownS) : Sl (Sl ByteArray)).getD []) = totS (a.getD []) := by
    show totS ((a.getD []).map ownS) = _
    rw [← prsA_len, ← prsA_len, prsA_own]
  have H : SSok (some ((a.getD []).map ownS)) := ⟨by show ((a.getD []).map ownS).length ≤ _; rw [List.length_map]; exact la, fun l hl => by
      obtain ⟨l', h1, rfl⟩ := List.mem_map.1 hl
      exact ea l' h1, fun l hl s hs => by
      obtain ⟨l', h1, rfl⟩ := List.mem_map.1 hl
      exact et l' h1 s hs, by rw [prsA_len, tO]; exact tot⟩
  obtain ⟨g, w, code, t1, t2, t3, t4, t5⟩ := model_both (some ((a.getD []).map ownS)) scale other H
  have E1 : t_laws_eqModel g w = some true := by
    unfold t_laws_eqModel
    rw [t3, decide_eq_true rfl, eqBigramS_ok t4 (by omega)]
    rfl
  obtain ⟨r, v, M1, r0⟩ := marksSS_ok (some ((a.getD []).map ownS)) (by show ((a.getD []).map ownS).length ≤ _; rw [List.length_map]; omega) (by rw [tO]; omega)
  obtain ⟨v2, M3, Hd⟩ := markBg_ok g.bigrams g.default (by omega)
  have z2 : decide (r < 0) = false := decide_eq_false (by omega)
  have z3 : decide (1 + 3 * (((g.bigrams.getD []).length : Nat) : Int) < 0) = false := decide_eq_false (by omega)
  simp only [T1, obind_sm, t1, t2, E1, Q1, decide_true, Bool.not_true, cond_false, M1, z2, M3, Hd, z3]

theorem ok_laws_FnExactCountModel : PureOK Try.prog n_laws_FnExactCountModel (G3 (fun (a : Sl (Sl ByteArray)) (_ _ : Int) => Wt.big a) fun _ _ _ => bv true) := lawC3 tt_laws_FnExactCountModel fun a b c h => true_FnExactCountModel a b c h

theorem law_FnExactCountModel (a : Sl (Sl ByteArray)) (b c : Int) (ha : Row.fine a) (_hb : Row.fine b) (_hc : Row.fine c) : G3 (fun (a : Sl (Sl ByteArray)) (_ _ : Int) => Wt.big a) (fun _ _ _ => bv true) [enc a, enc b, enc c] = some (bv true) := G3_enc _ _ a b c (Wt.fb a ha)

theorem isC_9 {cs : List AV} (h : IsC Try.prog 9 cs) : ∃ x : ByteArray, cs = Row.cells x ∧ Row.fine x := by
  obtain ⟨n, rfl, hn⟩ := IsC.strE Try.underlying9 h
  exact ⟨n, rfl, hn⟩
theorem isC_49 {cs : List AV} (h : IsC Try.prog 49 cs) : ∃ x : (Sl ByteArray), cs = Row.cells x ∧ Row.fine x := by
  rcases IsC.sliceE Try.underlying49 h with rfl | ⟨rows, rfl, h1, h2⟩
  · exact ⟨none, rfl, Sl.fineNil⟩
  · exact Sl.isC (by kernel_rfl) h1 fun row hr => isC_9 (h2 row hr)
theorem isC_22 {cs : List AV} (h : IsC Try.prog 22 cs) : ∃ x : (Sl (Sl ByteArray)), cs = Row.cells x ∧ Row.fine x := by
  rcases IsC.sliceE Try.underlying22 h with rfl | ⟨rows, rfl, h1, h2⟩
  · exact ⟨none, rfl, Sl.fineNil⟩
  · exact Sl.isC (by kernel_rfl) h1 fun row hr => isC_49 (h2 row hr)
theorem isC_2 {cs : List AV} (h : IsC Try.prog 2 cs) : ∃ x : Int, cs = Row.cells x ∧ Row.fine x := by
  obtain ⟨n, rfl, hn⟩ := IsC.intE Try.underlying2 h
  exact ⟨n, rfl, fine_int hn⟩
theorem own : ownKnob Try.prog.godebug = none := by kernel_rfl
theorem laidOut : laidOutB Try.prog = true := by kernel_rfl

set_option maxRecDepth 100000 in
theorem holds : Rows.FnExactCountModelSaid :=
  OpenClaim.holds_of_wide 3 Try.f3 rfl rfl rfl rfl rfl rfl rfl ⟨rfl, rfl, rfl, rfl, rfl⟩ rfl rfl rfl rfl rfl (by kernel_rfl) Try.func3 (by kernel_rfl)
    (of_decide_eq_true (by kernel_rfl)) (by unfold Func.isWrapper; rw [if_neg (by decide +kernel)]; exact ⟨rfl, rfl⟩)
    (fun os started H enc _ => law_lifted (C := Try.checked) (s := Rows.fnExactCountModelSpec) own started (by kernel_rfl) Try.func3
      (ChangeSpec.witness6 (enc := enc) (C := Try.checked) false ⟨#[], #[.slice none 0 0, .int .i64 0, .int .i64 0], []⟩ 8 (by kernel_rfl) (by kernel_rfl) (by kernel_rfl) (by kernel_rfl))
      laidOut rfl (tb := 4) rfl Try.underlying4 (ts := [22, 49, 9, 2]) (by kernel_rfl)
      (fun ds h => by match ds, h with | [d0, d1, d2], _ => rfl)
      hb_laws_FnExactCountModel ok_laws_FnExactCountModel (by
    intro l h
    obtain ⟨a0, l0, rfl, g0, k0⟩ := h
    obtain ⟨a1, l1, rfl, g1, k1⟩ := k0
    obtain ⟨a2, l2, rfl, g2, k2⟩ := k1
    cases k2
    obtain ⟨b0, e0, w0⟩ := isC_22 (isV_one (by kernel_rfl) g0)
    obtain rfl := one_enc e0
    obtain ⟨b1, e1, w1⟩ := isC_2 (isV_one (by kernel_rfl) g1)
    obtain rfl := one_enc e1
    obtain ⟨b2, e2, w2⟩ := isC_2 (isV_one (by kernel_rfl) g2)
    obtain rfl := one_enc e2
    exact law_FnExactCountModel b0 b1 b2 w0 w1 w2) (by kernel_rfl))
#print axioms holds
end Go.Proofs.Ytokbncnochagaaa
