/-
  The law FnResiduals holds, for all arguments: it returns true, and its arguments read behind the call as before. No condition.
-/
import Derived.Test.YtbjooaoifmfmoaaFnResidualsGen
import Derived.Test.YtbjooaoifmfmoaaRows
namespace Go.Proofs.Ytbjooaoifmfmoaa
open Go Go.Eng Go.Eng.Cod
set_option maxRecDepth 100000

theorem nil_ok : EnvOK Try.prog (envL []) := E0

def within (a b c : Int) : Bool := decide (b ≤ a) && decide (a ≤ c)

theorem ok_impl_within : PureOK Try.prog n_impl_within (T3 within) := pureT3 nil_ok mixed hb_impl_within fun a b c => by
  simp [e_impl_within, within]

/-- The source of draws: how far it has read, its seed. -/
structure SS where
  at_ : Nat
  w : Int
def srow (q : Sl UInt8) (st : SS) : AObj := ⟨3, [[Sl.enc q, iv (st.at_ : Int), .sc (.int .u64 st.w)]]⟩
theorem store_head (s j k : Nat) (v : AV) (row : List AV) (t : Heap) (h1 : v.cells.length = s) (h2 : j + s ≤ row.length) (h3 : v.cells.all AV.flat = true) : aStore s (.ptr 0 1 0 j) v (⟨k, [row]⟩ :: t) = some (⟨k, [splice row j v.cells]⟩ :: t) := by
  simp only [aStore, List.getElem?_cons_zero, List.length_cons, List.length_nil, Nat.zero_add, if_true]
  rw [if_pos ⟨h1, h2, h3⟩]
  rfl
theorem v_mul (a b : Int) : aBin .mul (.sc (.int .u64 a)) (.sc (.int .u64 b)) = some (.sc (.int .u64 (IntKind.u64.wrap (a * b)))) := (rfl)
theorem v_add (a b : Int) : aBin .add (.sc (.int .u64 a)) (.sc (.int .u64 b)) = some (.sc (.int .u64 (IntKind.u64.wrap (a + b)))) := (rfl)
theorem v_shr40 (a : Int) : aBin .shr (.sc (.int .u64 a)) (.sc (.int .u64 40)) = some (.sc (.int .u64 (a.fdiv (2 ^ 40)))) := (rfl)
theorem v_conv (a : Int) : aConvInt .u64 (iv a) = some (.sc (.int .u64 (IntKind.u64.wrap a))) := (rfl)
theorem v_back (a : Int) : aConvInt .i64 (.sc (.int .u64 a)) = some (iv (wr a)) := (rfl)
theorem v_byte (b : UInt8) : aConvInt .i64 (bt b) = some (iv (b.toNat : Nat)) := by
  have h0 : aConvInt .i64 (bt b) = some (iv (wr (b.toNat : Int))) := rfl
  have := b.toNat_lt
  rw [h0, wr_id (by omega) (by omega)]
theorem v_and (a : Int) : ∃ r : Nat, r ≤ 255 ∧ aBin .and (.sc (.int .u64 a)) (.sc (.int .u64 255)) = some (.sc (.int .u64 (r : Int))) := by
  have h0 : aBin .and (.sc (.int .u64 a)) (.sc (.int .u64 255)) = some (.sc (.int .u64 (IntKind.u64.wrap ((BitVec.ofInt 64 a &&& BitVec.ofInt 64 255).toNat : Nat)))) := rfl
  have h1 : (BitVec.ofInt 64 a &&& BitVec.ofInt 64 255).toNat ≤ 255 := by
    rw [BitVec.toNat_and]
    have : (BitVec.ofInt 64 255).toNat = 255 := by decide
    rw [this]
    exact Nat.and_le_right
  refine ⟨(BitVec.ofInt 64 a &&& BitVec.ofInt 64 255).toNat, h1, ?_⟩
  rw [h0]
  generalize (BitVec.ofInt 64 a &&& BitVec.ofInt 64 255).toNat = r at h1
  congr 3
  simp only [IntKind.wrap, IntKind.bits, IntKind.signed]
  simp only [Bool.false_and, Bool.false_eq_true, if_false]
  omega

noncomputable def eNext : Nat → Contract := envL []
theorem next_ex (q : Sl UInt8) (hq : fit q = true) (st : SS) (hs : st.at_ ≤ 1000000) : ∃ (r : Int) (w : Int), (∀ t, denFn Try.prog eNext n_spec_l00Src_next [.ptr 0 1 0 0] (srow q st :: t) = some (iv r, srow q ⟨st.at_ + 1, w⟩ :: t)) ∧ 0 ≤ r ∧ r ≤ 255 := by
  obtain ⟨a, w⟩ := st
  have hs' : a ≤ 1000000 := hs
  have T := lookT q (w := 1) rfl
  have a1 : wr ((a : Int) + 1) = ((a + 1 : Nat) : Int) := by rw [wr_id (by omega) (by omega)]; omega
  have sp1 : ∀ w t, aStore 1 (.ptr 0 1 0 1) (iv ((a + 1 : Nat) : Int)) (⟨3, [[Sl.enc q, iv (a : Int), .sc (.int .u64 w)]]⟩ :: t) = some (⟨3, [[Sl.enc q, iv ((a + 1 : Nat) : Int), .sc (.int .u64 w)]]⟩ :: t) := fun w t => store_head 1 1 3 _ _ t rfl (by simp) rfl
  have sp2 : ∀ (b : Int) w w' t, aStore 1 (.ptr 0 1 0 2) (.sc (.int .u64 w')) (⟨3, [[Sl.enc q, iv b, .sc (.int .u64 w)]]⟩ :: t) = some (⟨3, [[Sl.enc q, iv b, .sc (.int .u64 w')]]⟩ :: t) := fun b w w' t => store_head 1 2 3 _ _ t rfl (by simp) rfl
  by_cases h : a < (q.getD []).length
  · obtain ⟨b, hb⟩ : ∃ b, (q.getD [])[a]'h = b := ⟨_, rfl⟩
    have i1 : idx (iv (a : Int)) (q.getD []).length = some a := idx_lt h
    have h2 : a + 1 ≤ (q.getD []).length := h
    have hbt := b.toNat_lt
    refine ⟨(b.toNat : Int), IntKind.u64.wrap (IntKind.u64.wrap (IntKind.u64.wrap (w * 6364136223846793005) + IntKind.u64.wrap (b.toNat : Int)) + 1442695040888963407), fun t => ?_, by omega, by omega⟩
    have h3 : (((a + 1 : Nat) : Int) ≤ ((q.getD []).length : Nat)) = True := eq_true (by omega)
    unfold srow
    simp only [e_spec_l00Src_next, nil_ptr, obind_sm, aFieldAddr_ptr, Nat.zero_add, load_head, List.drop_zero, List.drop_succ_cons, cut, T.len, aBin_lss, condB_bv, show ((a : Int) < ((q.getD []).length : Nat)) from by omega, decide_true, cond_true, T.idx, i1, T.load, List.getElem?_eq_getElem h, hb, cells_byte, v_byte, aBin_add, a1, sp1, v_mul, v_conv, v_add, sp2, aBin_leq, h3]
  · by_cases h2 : a + 1 ≤ (q.getD []).length
    · omega
    · have hlt : ((a : Int) < ((q.getD []).length : Nat)) = False := eq_false (by omega)
      have h3 : (((a + 1 : Nat) : Int) ≤ ((q.getD []).length : Nat)) = False := eq_false (by omega)
      obtain ⟨r, hr, e⟩ := v_and ((IntKind.u64.wrap (IntKind.u64.wrap (IntKind.u64.wrap (w * 6364136223846793005) + IntKind.u64.wrap 0) + 1442695040888963407)).fdiv (2 ^ 40))
      have wrr : wr ((r : Nat) : Int) = (r : Nat) := wr_id (by omega) (by omega)
      refine ⟨(r : Int), IntKind.u64.wrap (IntKind.u64.wrap (IntKind.u64.wrap (w * 6364136223846793005) + IntKind.u64.wrap 0) + 1442695040888963407), fun t => ?_, by omega, by omega⟩
      unfold srow
      simp only [e_spec_l00Src_next, nil_ptr, obind_sm, aFieldAddr_ptr, Nat.zero_add, load_head, List.drop_zero, List.drop_succ_cons, cut, T.len, aBin_lss, condB_bv, hlt, decide_false, cond_false, aBin_add, a1, sp1, v_mul, v_conv, v_add, sp2, aBin_leq, h3, v_shr40, e, v_back, wrr]

noncomputable def ePick : Nat → Contract := envL [(n_spec_l00Src_next, .gen (denFn Try.prog eNext n_spec_l00Src_next))]
theorem ePick_ok : EnvOK Try.prog ePick := EconsG (gen_of_den E0 mixed hb_spec_l00Src_next) E0
theorem pick_ex (q : Sl UInt8) (hq : fit q = true) (st : SS) (hs : st.at_ ≤ 900000) (n : Int) (hn : 1 ≤ n) (hn2 : n ≤ 60000) : ∃ (r : Int) (st' : SS), (∀ t, denFn Try.prog ePick n_spec_l00Src_pick [.ptr 0 1 0 0, iv n] (srow q st :: t) = some (iv r, srow q st' :: t)) ∧ st'.at_ ≤ st.at_ + 2 ∧ 0 ≤ r ∧ r < n := by
  have henv : ePick n_spec_l00Src_next = .gen (denFn Try.prog eNext n_spec_l00Src_next) := by simp [ePick, envL]
  by_cases h1 : n ≤ 1
  · exact ⟨0, st, fun t => by simp [e_spec_l00Src_pick, h1], by omega, by omega, by omega⟩
  · obtain ⟨r1, w1, e1, b1, c1⟩ := next_ex q hq st (by omega)
    by_cases h2 : 200 < n
    · obtain ⟨r2, w2, e2, b2, c2⟩ := next_ex q hq ⟨st.at_ + 1, w1⟩ (by simp only; omega)
      have a1 : wr (r1 * 256) = r1 * 256 := wr_id (by omega) (by omega)
      have a2 : wr (r1 * 256 + r2) = r1 * 256 + r2 := wr_id (by omega) (by omega)
      have t0 := Int.tmod_nonneg n (a := r1 * 256 + r2) (by omega)
      have t1 := Int.tmod_lt_of_pos (r1 * 256 + r2) (b := n) (by omega)
      refine ⟨(r1 * 256 + r2).tmod n, ⟨st.at_ + 1 + 1, w2⟩, fun t => ?_, by simp only; omega, t0, t1⟩
      simp only [e_spec_l00Src_pick, henv, aCall_gen, aBin_leq, h1, decide_false, obind_sm, condB_bv, cond_false, e1, obind2_sm, aBin_gtr, h2, decide_true, cond_true, aBin_mul, a1, e2, aBin_add, a2, aBin_rem _ n (by omega)]
    · have t0 := Int.tmod_nonneg n (a := r1) (by omega)
      have t1 := Int.tmod_lt_of_pos r1 (b := n) (by omega)
      refine ⟨r1.tmod n, ⟨st.at_ + 1, w1⟩, fun t => ?_, by simp only; omega, t0, t1⟩
      simp only [e_spec_l00Src_pick, henv, aCall_gen, aBin_leq, h1, decide_false, obind_sm, condB_bv, cond_false, e1, obind2_sm, aBin_gtr, h2, aBin_rem _ n (by omega)]

/-- What 'l00From' hands out. -/
def fromA (q : Sl UInt8) : AV := .np 3 [[Sl.enc q, iv 0, .sc (.int .u64 0)]] 0 0
theorem ok_spec_l00From : PureOK Try.prog n_spec_l00From (R1 fun q : Sl UInt8 => some (fromA q)) := pureR1 E0 mixed hb_spec_l00From fun q r h => by
  cases h
  apply pureG
  rw [e_spec_l00From]
  cases q <;> rfl
theorem hand_from (q : Sl UInt8) (h : Heap) : hand (fromA q) (noRef depth (Sl.enc q)) h = some (.ptr h.length 1 0 0, h ++ [srow q ⟨0, 0⟩]) := by
  cases q <;> rfl

/-- What has been gathered behind the source. -/
def GotT (t : Heap) (x : AV) (l : List Int) : Prop := ∃ o, x = .sl (o + 1) l.length 0 l.length ∧ t[o]? = some ⟨1, l.map Row.cells⟩
theorem gotT_app {M : AObj} {t : Heap} {x : AV} {l : List Int} (g : GotT t x l) (hl : l.length ≤ 1000) (v : Int) : ∃ x' t', aAppend false 1 8 x (.sl (t.length + 1) 1 0 1) (M :: (t ++ [⟨1, [[iv v]]⟩])) = some (x', M :: t') ∧ GotT t' x' (l ++ [v]) := by
  obtain ⟨o, rfl, ho⟩ := g
  have holt := (List.getElem?_eq_some_iff.1 ho).1
  have ho' : (M :: (t ++ [(⟨1, [[iv v]]⟩ : AObj)]))[o + 1]? = some ⟨1, l.map Row.cells⟩ := by
    rw [List.getElem?_cons_succ, List.getElem?_append_left holt]; exact ho
  have hs : aSrc false 1 (.sl (t.length + 1) 1 0 1) (M :: (t ++ [⟨1, [[iv v]]⟩])) = some [[iv v]] := by simp [aSrc]
  have hm : maxBytes = 140737488355328 := rfl
  refine ⟨.sl (o + 1) (l.length + 1) 0 (l.length + 1), (t ++ [(⟨1, [[iv v]]⟩ : AObj)]).set o (⟨1, (l ++ [v]).map Row.cells⟩ : AObj), ?_, o, by simp, ?_⟩
  · unfold aAppend
    rw [hs]
    simp only [ho', List.length_map, List.length_cons, List.length_nil, Nat.zero_add]
    rw [if_pos ⟨trivial, trivial, trivial, by omega, by omega, Nat.le_refl _⟩]
    congr 2
    · congr 1
      omega
    · rw [List.set_cons_succ]
      congr 2
      have e1 : List.take l.length (l.map (Row.cells (A := Int))) = l.map Row.cells := List.take_of_length_le (by simp)
      have e2 : List.drop (l.length + 1) (l.map (Row.cells (A := Int))) = [] := List.drop_eq_nil_of_le (by simp)
      simp [e1, e2]
  · rw [List.getElem?_set_self (by simp; omega)]
theorem gotT_rel {M : AObj} {t : Heap} {x : AV} {l : List Int} (g : GotT t x l) : release (M :: t) depth x = some (nwl l) := by
  obtain ⟨o, rfl, ho⟩ := g
  exact release_sl (A := Int) (M :: t) l (by rw [List.getElem?_cons_succ]; exact ho) rfl rfl

noncomputable def eNum : Nat → Contract := envL [(n_spec_l00From, .pure (R1 fun q : Sl UInt8 => some (fromA q))), (n_spec_l00Src_pick, .gen (denFn Try.prog ePick n_spec_l00Src_pick))]
theorem eNum_ok : EnvOK Try.prog eNum := Econs ok_spec_l00From (EconsG (gen_of_den ePick_ok mixed hb_spec_l00Src_pick) E0)
theorem eNum_pick : eNum n_spec_l00Src_pick = .gen (denFn Try.prog ePick n_spec_l00Src_pick) := by simp [eNum, envL]
theorem eNum_from : eNum n_spec_l00From = .pure (R1 fun q : Sl UInt8 => some (fromA q)) := by simp [eNum, envL]
theorem lp_spec_A2Numbers {y0 y1 y2 y7 y8 y9 y10 y11 y12 y13 y27 : AV} (q : Sl UInt8) (hq : fit q = true) : ∀ (k : Nat) (a : Int) (s : SS) (l : List Int) (x : AV) (t : Heap), k ≤ 20 → s.at_ ≤ 1000 - 2 * k → l.length + k ≤ 20 → (∀ v ∈ l, -10000 ≤ v ∧ v ≤ 10000) → -10000 + 100 * k ≤ a → a + 100 * k ≤ 10000 → GotT t x l →
    ∃ l' : List Int, l'.length ≤ 20 ∧ (∀ v ∈ l', -10000 ≤ v ∧ v ≤ 10000) ∧ (obind (obind (loopP hm0_spec_A2Numbers xm0_spec_A2Numbers (lb0_spec_A2Numbers eNum) [y0, y1, y2, .ptr 0 1 0 0, x, iv a, iv (k : Nat), y7, y8, y9, y10, y11, y12, y13, .top, .top, .top, .top, .top, .top, .top, .top, .top, .top, .top, .top, .top, y27] (srow q s :: t)) fun r => lk0_spec_A2Numbers eNum r.1 r.2.1 r.2.2) fun p => release p.2 depth p.1) = some (nwl l') := by
  intro k
  induction k with
  | zero =>
    intro a s l x t h1 h2 h3 h4 h5 h6 g
    refine ⟨l, by omega, h4, ?_⟩
    have := gotT_rel (M := srow q s) g
    rw [loopP.eq_1]
    simp [e_lb0_spec_A2Numbers, restr, e_lk0x0_spec_A2Numbers, this]
  | succ k ih =>
    intro a s l x t h1 h2 h3 h4 h5 h6 g
    obtain ⟨x', t', ea, g'⟩ := gotT_app (M := srow q s) g (by omega) a
    obtain ⟨r, s', ep, p1, p2, p3⟩ := pick_ex q hq s (by omega) 201 (by omega) (by omega)
    have b0 : ∀ h, aBuildSlice [iv 0] 1 [(0, iv a)] h = some (.sl h.length 1 0 1, h ++ [⟨1, [[iv a]]⟩]) := fun h => rfl
    have w1 : wr (r - 100) = r - 100 := wr_id (by omega) (by omega)
    have w2 : wr (a + (r - 100)) = a + (r - 100) := wr_id (by omega) (by omega)
    have w3 : wr (((k + 1 : Nat) : Int) - 1) = (k : Nat) := by rw [wr_id (by omega) (by omega)]; omega
    have hp : (0 : Int) < ((k + 1 : Nat) : Int) := by omega
    obtain ⟨l', c1, c2, c3⟩ := ih (a + (r - 100)) s' (l ++ [a]) x' t' (by omega) (by omega) (by simp; omega) (by
      intro v hv
      rcases List.mem_append.1 hv with hv | hv
      · exact h4 v hv
      · have e : v = a := by simpa using hv
        omega) (by omega) (by omega) g'
    refine ⟨l', c1, c2, ?_⟩
    rw [loopP.eq_1]
    simp only [e_lb0_spec_A2Numbers, aBin_gtr, obind_sm, condB_bv, hp, decide_true, cond_true, b0, obind2_sm, List.length_cons, List.cons_append, ea, eNum_pick, aCall_gen, ep, aBin_sub, w1, aBin_add, w2, w3, restr, cond_false]
    exact c3
theorem nums_ex (q : Sl UInt8) (hq : fit q = true) : ∃ l : List Int, l.length ≤ 20 ∧ (∀ v ∈ l, -10000 ≤ v ∧ v ≤ 10000) ∧ (obind (denFn Try.prog eNum n_spec_A2Numbers [Sl.enc q] []) fun p => release p.2 depth p.1) = some (nwl l) := by
  obtain ⟨r1, s1, e1, p1, p2, p3⟩ := pick_ex q hq ⟨0, 0⟩ (by simp) 4000 (by omega) (by omega)
  obtain ⟨r2, s2, e2, p4, p5, p6⟩ := pick_ex q hq s1 (by simp at p1; omega) 20 (by omega) (by omega)
  obtain ⟨m, rfl⟩ := Int.eq_ofNat_of_zero_le p5
  have z0 : ∀ h, aBuildSlice [iv 0] 0 [] h = some (.sl h.length 0 0 0, h ++ [⟨1, []⟩]) := fun h => rfl
  have hf := hand_from q []
  have sn : ∀ h, snapD h (Sl.enc q) = some q := fun h => snapD_enc h q
  simp at p1
  obtain ⟨l', c1, c2, c3⟩ := @lp_spec_A2Numbers _ _ _ _ _ _ _ _ _ _ _ q hq m r1 s2 [] (.sl 1 0 0 0) [⟨1, []⟩] (by omega) (by omega) (by simp; omega) (by intro v hv; cases hv) (by omega) (by omega) ⟨0, rfl, rfl⟩
  refine ⟨l', c1, c2, ?_⟩
  rw [e_spec_A2Numbers]
  simp only [eNum_from, eNum_pick, aCall_pure, aCall_gen, callR1, sn, obind_sm, List.all_cons, List.all_nil, Bool.and_true, hf, obind2_sm, List.nil_append, z0, List.length_cons, List.length_nil, List.cons_append, e1, e2]
  exact c3
noncomputable def numsOf (q : Sl UInt8) : List Int := if h : fit q = true then Classical.choose (nums_ex q h) else []
theorem numsOf_ok (q : Sl UInt8) (h : fit q = true) : (numsOf q).length ≤ 20 ∧ (∀ v ∈ numsOf q, -10000 ≤ v ∧ v ≤ 10000) ∧ (obind (denFn Try.prog eNum n_spec_A2Numbers [Sl.enc q] []) fun p => release p.2 depth p.1) = some (nwl (numsOf q)) := by
  unfold numsOf
  rw [dif_pos h]
  exact Classical.choose_spec (nums_ex q h)
theorem ok_spec_A2Numbers : PureOK Try.prog n_spec_A2Numbers (G1 (fun q : Sl UInt8 => fit q) fun q => nwl (numsOf q)) :=
  pureG1 eNum_ok mixed hb_spec_A2Numbers fun q h => (numsOf_ok q h).2.2

/-- What has been gathered: numbers. -/
def GotO (h : Heap) (x : AV) (l : List Int) : Prop := ∃ o, x = .sl o l.length 0 l.length ∧ h[o]? = some ⟨1, l.map Row.cells⟩
def GotI (h : Heap) (x : AV) (l : List Int) : Prop := (x = nilS ∧ l = []) ∨ (l ≠ [] ∧ GotO h x l)
theorem src_oneI (h : Heap) (v : Int) : aSrc false 1 (.sl h.length 1 0 1) (h ++ [⟨1, [[iv v]]⟩]) = some [[iv v]] := by
  simp [aSrc]
theorem gotO_app {h : Heap} {x : AV} {l : List Int} (g : GotO h x l) (hl : l.length ≤ 1000) (t : Int) : ∃ x' h', aAppend false 1 8 x (.sl h.length 1 0 1) (h ++ [⟨1, [[iv t]]⟩]) = some (x', h') ∧ GotO h' x' (l ++ [t]) ∧ (∀ (i : Nat) (ob : AObj), h[i]? = some ob → x ≠ .sl i l.length 0 l.length → h'[i]? = some ob) ∧ ∀ i, x = .sl i l.length 0 l.length → x' = .sl i (l.length + 1) 0 (l.length + 1) := by
  obtain ⟨o, rfl, ho⟩ := g
  have holt := (List.getElem?_eq_some_iff.1 ho).1
  have ho' : (h ++ [⟨1, [[iv t]]⟩])[o]? = some ⟨1, l.map Row.cells⟩ := by rw [List.getElem?_append_left holt]; exact ho
  have hm : maxBytes = 140737488355328 := rfl
  refine ⟨.sl o (l.length + 1) 0 (l.length + 1), (h ++ [(⟨1, [[iv t]]⟩ : AObj)]).set o (⟨1, (l ++ [t]).map Row.cells⟩ : AObj), ?_, ⟨o, by simp, ?_⟩, fun i ob hi hne => ?_, fun i e => by cases e; rfl⟩
  · unfold aAppend
    rw [src_oneI]
    simp only [ho', List.length_map, List.length_cons, List.length_nil, Nat.zero_add]
    rw [if_pos ⟨trivial, trivial, trivial, by omega, by omega, Nat.le_refl _⟩]
    congr 2
    · congr 1
      omega
    · congr 1
      have e1 : List.take l.length (l.map (Row.cells (A := Int))) = l.map Row.cells := List.take_of_length_le (by simp)
      have e2 : List.drop (l.length + 1) (l.map (Row.cells (A := Int))) = [] := List.drop_eq_nil_of_le (by simp)
      simp [e1, e2]
  · rw [List.getElem?_set_self (by simp; omega)]
  · have hio : o ≠ i := fun e => hne (by rw [e])
    have hil := (List.getElem?_eq_some_iff.1 hi).1
    rw [List.getElem?_set_ne hio, List.getElem?_append_left hil]
    exact hi
theorem gotI_app {h : Heap} {x : AV} {l : List Int} (g : GotI h x l) (hl : l.length ≤ 1000) (t : Int) : ∃ x' h', aAppend false 1 8 x (.sl h.length 1 0 1) (h ++ [⟨1, [[iv t]]⟩]) = some (x', h') ∧ GotI h' x' (l ++ [t]) := by
  rcases g with ⟨rfl, rfl⟩ | ⟨hne, g⟩
  · refine ⟨.sl (h ++ [(⟨1, [[iv t]]⟩ : AObj)]).length 1 0 1, h ++ [⟨1, [[iv t]]⟩] ++ [⟨1, [[iv t]]⟩], ?_, .inr ⟨by simp, (h ++ [(⟨1, [[iv t]]⟩ : AObj)]).length, rfl, by simp⟩⟩
    have hm : maxBytes = 140737488355328 := rfl
    unfold aAppend
    rw [src_oneI]
    simp [nilS, hm]
  · obtain ⟨x', h', e, g', _⟩ := gotO_app g hl t
    exact ⟨x', h', e, .inr ⟨by simp, g'⟩⟩
def nwi (l : List Int) : AV := match l with
  | [] => nilS
  | _ => nwl l
theorem gotI_rel {h : Heap} {x : AV} {l : List Int} (g : GotI h x l) : release h depth x = some (nwi l) := by
  rcases g with ⟨rfl, rfl⟩ | ⟨hne, o, rfl, ho⟩
  · exact release_nil h
  · rw [release_sl (A := Int) h l ho rfl rfl]
    cases l with
    | nil => exact absurd rfl hne
    | cons a l => rfl
theorem gotI_relT {h : Heap} {x : AV} {l : List Int} (g : GotI h x l) (c : AV) (hc : isSc c = true) : release h depth (.tup [x, c]) = some (.tup [nwi l, c]) := by
  rcases g with ⟨rfl, rfl⟩ | ⟨hne, o, rfl, ho⟩
  · exact (RelsL.tup (RelsL.cons (Rels.sc 0 rfl) (RelsL.cons (Rels.sc 0 hc) (RelsL.nil _)))).release
  · have R : Rels h 7 (.sl o l.length 0 l.length) (nwl l) o (o + 1) := by
      refine RelsR.sl (hi := o + 1) ho (by simp) (Nat.le_refl _) ?_
      have e1 : List.take l.length (l.map (Row.cells (A := Int))) = l.map Row.cells := List.take_of_length_le (by simp)
      rw [e1]
      exact ⟨Nat.le_refl _, rel_rows h 6 l, by rw [ids_rows]; exact List.nodup_nil, by rw [ids_rows]; intro x hx; cases hx⟩
    have := (RelsL.tup (RelsL.cons R (RelsL.cons (Rels.sc (o + 1) hc) (RelsL.nil _)))).release
    cases l with
    | nil => exact absurd rfl hne
    | cons a l => exact this
theorem gotI_snap {h : Heap} {x : AV} {l : List Int} (g : GotI h x l) : ∃ q : Sl Int, snapD h x = some q ∧ q.getD [] = l := by
  rcases g with ⟨rfl, rfl⟩ | ⟨hne, o, rfl, ho⟩
  · exact ⟨none, rfl, rfl⟩
  · exact ⟨some l, snapD_sl (A := Int) h l ho rfl rfl, rfl⟩

def pred (l : List Int) : Int := if l.length = 0 then 0 else if l.length = 1 then l.getD 0 0 else wr (wr (2 * l.getD (l.length - 1) 0) - l.getD (l.length - 2) 0)
theorem ok_impl_isPredicted : PureOK Try.prog n_impl_isPredicted (T1 fun n => within n (-125000000) 125000000) := pureT1 (E1 ok_impl_within) mixed hb_impl_isPredicted fun n => by
  simp [e_impl_isPredicted, envL]

theorem ok_impl_isResidual : PureOK Try.prog n_impl_isResidual (T1 fun n => within n (-1000000000) 1000000000) := pureT1 (E1 ok_impl_within) mixed hb_impl_isResidual fun n => by
  simp [e_impl_isResidual, envL]

def few (q : Sl Int) : Bool := decide ((q.getD []).length ≤ 1000)
theorem ok_impl_predicted : PureOK Try.prog n_impl_predicted (G1 few fun q => iv (pred (q.getD []))) :=
  pureG1 E0 mixed hb_impl_predicted fun q hq => by
  have hl : (q.getD []).length ≤ 1000 := of_decide_eq_true hq
  have T := lookT q (w := 1) rfl
  unfold pred
  by_cases h0 : (q.getD []).length = 0
  · simp [e_impl_predicted, T.len, h0]
  · have h0' : ¬ ((q.getD []).length : Int) = 0 := by omega
    by_cases h1 : (q.getD []).length = 1
    · have i0 : idx (iv 0) 1 = some 0 := idx_lt (i := 0) (by omega)
      have g0 : (q.getD [])[0]? = some ((q.getD []).getD 0 0) := by
        rw [List.getD_eq_getElem?_getD, List.getElem?_eq_getElem (by omega)]; rfl
      simp only [e_impl_predicted, enc_sl, T.len, obind_sm, aCmp_eq, h0', decide_false, condB_bv, cond_false, h1, T.idx, i0, T.load, g0, cells_int', List.drop_zero, cut, release_iv]
      simp
    · have h1' : ¬ ((q.getD []).length : Int) = 1 := by omega
      have w1 : wr (((q.getD []).length : Nat) - 1 : Int) = (((q.getD []).length - 1 : Nat) : Int) := by rw [wr_id (by omega) (by omega)]; omega
      have w2 : wr (((q.getD []).length : Nat) - 2 : Int) = (((q.getD []).length - 2 : Nat) : Int) := by rw [wr_id (by omega) (by omega)]; omega
      have i1 : idx (iv (((q.getD []).length - 1 : Nat) : Int)) (q.getD []).length = some ((q.getD []).length - 1) := idx_lt (by omega)
      have i2 : idx (iv (((q.getD []).length - 2 : Nat) : Int)) (q.getD []).length = some ((q.getD []).length - 2) := idx_lt (by omega)
      have g1 : (q.getD [])[(q.getD []).length - 1]? = some ((q.getD []).getD ((q.getD []).length - 1) 0) := by
        rw [List.getD_eq_getElem?_getD, List.getElem?_eq_getElem (by omega)]; rfl
      have g2 : (q.getD [])[(q.getD []).length - 2]? = some ((q.getD []).getD ((q.getD []).length - 2) 0) := by
        rw [List.getD_eq_getElem?_getD, List.getElem?_eq_getElem (by omega)]; rfl
      simp only [e_impl_predicted, enc_sl, T.len, obind_sm, aCmp_eq, h0', h1', decide_false, condB_bv, cond_false, aBin_sub, w1, w2, T.idx, i1, i2, T.load, g1, g2, cells_int', List.drop_zero, cut, aBin_mul, release_iv, h0, h1, if_false]

def residA : List Int → List Int → List Int
  | _, [] => []
  | pre, x :: r => wr (x - pred pre) :: residA (pre ++ [x]) r
theorem residA_len : ∀ (suf pre : List Int), (residA pre suf).length = suf.length
  | [], _ => rfl
  | x :: r, pre => by simp [residA, residA_len r]
def fromR : List Int → List Int → Option (List Int)
  | out, [] => some out
  | out, r :: rs => bif !within r (-1000000000) 1000000000 then none else bif !within (wr (pred out + r)) (-125000000) 125000000 then none else fromR (out ++ [wr (pred out + r)]) rs
theorem getD_bound {l : List Int} {B : Int} (hB : 0 ≤ B) (h : ∀ v ∈ l, -B ≤ v ∧ v ≤ B) (i : Nat) : -B ≤ l.getD i 0 ∧ l.getD i 0 ≤ B := by
  by_cases hi : i < l.length
  · have e : l.getD i 0 = l[i] := by rw [List.getD_eq_getElem?_getD, List.getElem?_eq_getElem hi]; rfl
    rw [e]
    exact h _ (List.getElem_mem hi)
  · have e : l.getD i 0 = 0 := by rw [List.getD_eq_getElem?_getD, List.getElem?_eq_none (by omega)]; rfl
    rw [e]
    omega
theorem pred_bound {l : List Int} (h : ∀ v ∈ l, -10000 ≤ v ∧ v ≤ 10000) : -30000 ≤ pred l ∧ pred l ≤ 30000 := by
  have b0 := getD_bound (by decide) h 0
  have b1 := getD_bound (by decide) h (l.length - 1)
  have b2 := getD_bound (by decide) h (l.length - 2)
  unfold pred
  split
  · omega
  · split
    · omega
    · rw [wr_id (n := 2 * l.getD (l.length - 1) 0) (by omega) (by omega), wr_id (by omega) (by omega)]
      omega
theorem from_resid : ∀ (suf pre : List Int), (∀ v ∈ pre, -10000 ≤ v ∧ v ≤ 10000) → (∀ v ∈ suf, -10000 ≤ v ∧ v ≤ 10000) → fromR pre (residA pre suf) = some (pre ++ suf)
  | [], pre, _, _ => by simp [residA, fromR]
  | x :: r, pre, hp, hs => by
    have hb := pred_bound hp
    have hx := hs x (by simp)
    have w1 : wr (x - pred pre) = x - pred pre := wr_id (by omega) (by omega)
    have w2 : wr (pred pre + (x - pred pre)) = x := by rw [wr_id (by omega) (by omega)]; omega
    have c1 : within (x - pred pre) (-1000000000) 1000000000 = true := by simp [within]; omega
    have c2 : within x (-125000000) 125000000 = true := by simp [within]; omega
    have ih := from_resid r (pre ++ [x]) (by
      intro v hv
      rcases List.mem_append.1 hv with hv | hv
      · exact hp v hv
      · have e : v = x := by simpa using hv
        rw [e]; exact hx) (fun v hv => hs v (by simp [hv]))
    simp only [residA, fromR, w1, w2, c1, c2, Bool.not_true, cond_false, ih]
    simp

theorem slice_head (q : Sl Int) (k : Nat) (hk : k ≤ (q.getD []).length) (h : Heap) : ∃ x, aSlice 1 (Sl.enc q) none (some (iv (k : Int))) h = some x ∧ ∃ p : Sl Int, (∀ h, snapD h x = some p) ∧ p.getD [] = (q.getD []).take k := by
  cases q with
  | none =>
    have hk0 : k = 0 := by simpa using hk
    subst hk0
    exact ⟨nilS, rfl, none, fun _ => rfl, rfl⟩
  | some l =>
    have hk' : k ≤ l.length := hk
    have i1 : idx (iv (k : Int)) (l.length + 1) = some k := idx_lt (by omega)
    refine ⟨.fs 1 ((l.take k).map Row.cells), ?_, some (l.take k), fun h => snapD_fs h 1 _ rfl, rfl⟩
    show (if 1 = 1 then (match bound (some (iv (k : Int))) (l.map Row.cells).length (l.map Row.cells).length with | some hh => (match bound none 0 hh with | some l' => some (AV.fs 1 (((l.map Row.cells).take hh).drop l')) | none => none) | none => none) else none) = _
    simp only [if_true, bound, List.length_map, i1, List.drop_zero, List.map_take]
theorem lp_impl_residualsOf (env : Nat → Contract) (he : env n_impl_predicted = .pure (G1 few fun q => iv (pred (q.getD [])))) {y1 y2 y23 : AV} (q : Sl Int) (hq : (q.getD []).length ≤ 1000) : ∀ (suf pre : List Int) (x : AV) (h : Heap) (acc : List Int) (i : Nat), q.getD [] = pre ++ suf → i = pre.length → acc.length = pre.length → GotI h x acc →
    (obind (obind (loopP hm0_impl_residualsOf xm0_impl_residualsOf (lb0_impl_residualsOf env) [Sl.enc q, y1, y2, x, .top, .top, Sl.enc q, iv ((q.getD []).length : Nat), iv (i : Nat), .top, .top, .top, .top, .top, .top, .top, .top, .top, .top, .top, .top, .top, .top, y23] h) fun r => lk0_impl_residualsOf env r.1 r.2.1 r.2.2) fun p => release p.2 depth p.1) = some (nwi (acc ++ residA pre suf)) := by
  have T := lookT q (w := 1) rfl
  intro suf
  induction suf with
  | nil =>
    intro pre x h acc i hl hi ha g
    have hni : ¬ i < (q.getD []).length := by rw [hl]; simp; omega
    have := gotI_rel g
    rw [loopP.eq_1]
    simp [e_lb0_impl_residualsOf, hni, restr, e_lk0x0_impl_residualsOf, this, residA]
  | cons v suf ih =>
    intro pre x h acc i hl hi ha g
    subst hi
    have S := Stp.mk' hl (by rw [maxLen_eq]; omega)
    obtain ⟨y, ey, p, sp, hp⟩ := slice_head q pre.length (Nat.le_of_lt S.lt) h
    have htk : (q.getD []).take pre.length = pre := by rw [hl]; simp
    rw [htk] at hp
    have fp : few p = true := by
      unfold few
      rw [hp]
      have := S.lt
      exact decide_eq_true (by omega)
    have S0 := S.lt
    obtain ⟨x', h', ea, g'⟩ := gotI_app g (by omega) (wr (v - pred pre))
    have b0 : ∀ (u : Int) h, aBuildSlice [iv 0] 1 [(0, iv u)] h = some (.sl h.length 1 0 1, h ++ [⟨1, [[iv u]]⟩]) := fun u h => rfl
    have r := ih (pre ++ [v]) x' h' (acc ++ [wr (v - pred pre)]) (pre.length + 1) (by simp [hl]) (by simp) (by simp [ha]) g'
    rw [loopP.eq_1]
    simp [-Int.natCast_add, e_lb0_impl_residualsOf, S0, T.idx, T.load, S.idx, S.elt, cut, ey, he, sp, fp, hp, b0, ea, restr]
    rw [S.wr]
    simp at r
    simp [residA, r]
theorem ok_impl_residualsOf : PureOK Try.prog n_impl_residualsOf (G1 few fun q => nwi (residA [] (q.getD []))) :=
  pureG1 (E1 ok_impl_predicted) mixed hb_impl_residualsOf fun q hq => by
  have hl : (q.getD []).length ≤ 1000 := of_decide_eq_true hq
  have T := lookT q (w := 1) rfl
  have L := fun env he {y1 y2 y23} => @lp_impl_residualsOf env he y1 y2 y23 q hl (q.getD []) [] nilS [] [] 0 rfl rfl rfl (.inl ⟨rfl, rfl⟩)
  simp [envL] at L
  simp [e_impl_residualsOf, T.len, envL]
  exact L _ rfl

def okP (v : Int) : Bool := within v (-125000000) 125000000
def resR (l : List Int) : AV := bif decide (60 < l.length) then .tup [nilS, iv 2] else bif !l.all okP then .tup [nilS, iv 2] else .tup [nwi (residA [] l), iv 0]
theorem hand_nwi (l : List Int) (ok : Bool) (h : Heap) : ∃ x h', hand (nwi l) ok h = some (x, h') ∧ GotI h' x l := by
  cases l with
  | nil => exact ⟨nilS, h, hand_nil ok h, .inl ⟨rfl, rfl⟩⟩
  | cons a r => exact ⟨_, _, hand_nwl (a :: r) ok h, .inr ⟨by simp, h.length, rfl, by simp⟩⟩
theorem lp_impl_ResidualsOf (env : Nat → Contract) (he : env n_impl_isPredicted = .pure (T1 fun n => within n (-125000000) 125000000)) (hf : env n_impl_residualsOf = .pure (G1 few fun q => nwi (residA [] (q.getD [])))) {y1 y4 y6 y7 y8 y19 y20 : AV} (q : Sl Int) (hq : few q = true) :
    (obind (obind (loopP hm0_impl_ResidualsOf xm0_impl_ResidualsOf (lb0_impl_ResidualsOf env) [Sl.enc q, y1, .top, .top, y4, .top, y6, y7, y8, Sl.enc q, iv ((q.getD []).length : Nat), iv 0, .top, .top, .top, .top, .top, .top, .top, y19, y20] []) fun r => lk0_impl_ResidualsOf env r.1 r.2.1 r.2.2) fun p => release p.2 depth p.1) = some (bif !(q.getD []).all okP then .tup [nilS, iv 2] else .tup [nwi (residA [] (q.getD [])), iv 0]) := by
  have hl : (q.getD []).length ≤ 1000 := of_decide_eq_true hq
  have T := lookT q (w := 1) rfl
  have L := loop_over (R := AV) (q.getD []) (by rw [maxLen_eq]; omega) (hmk := hm0_impl_ResidualsOf) (xm := xm0_impl_ResidualsOf) (body := lb0_impl_ResidualsOf env) (K := fun r => obind (lk0_impl_ResidualsOf env r.1 r.2.1 r.2.2) fun p => release p.2 depth p.1) (σ := Unit) (fun _ (i : Nat) => [Sl.enc q, y1, .top, .top, y4, .top, y6, y7, y8, Sl.enc q, iv ((q.getD []).length : Nat), iv (i : Nat), .top, .top, .top, .top, .top, .top, .top, y19, y20]) (fun _ => [])
    (fun _ suf => (q.getD []).all okP = suf.all okP) (fun _ _ => some (bif !(q.getD []).all okP then .tup [nilS, iv 2] else .tup [nwi (residA [] (q.getD [])), iv 0]))
    (fun pre k suf s hl hi S => by
      cases hk : okP k
      · left
        have hall : (q.getD []).all okP = false := by rw [hi]; simp [hk]
        have hk' : within k (-125000000) 125000000 = false := hk
        rw [loopP.eq_1, hall]
        simp [e_lb0_impl_ResidualsOf, T.len, T.idx, T.load, S.idx, S.lt, S.elt, cut, S.wr, he, hk', restr, e_lk0r_impl_ResidualsOf]
      · right
        have hk' : within k (-125000000) 125000000 = true := hk
        refine ⟨(), by rw [hi]; simp [hk], ?_, rfl⟩
        rw [loopP.eq_1]
        simp [e_lb0_impl_ResidualsOf, T.len, T.idx, T.load, S.idx, S.lt, S.elt, cut, S.wr, he, hk', restr])
    (fun s hi => by
      have hall : (q.getD []).all okP = true := by rw [hi]; rfl
      obtain ⟨x, h', e, g⟩ := hand_nwi (residA [] (q.getD [])) (noRef depth (Sl.enc q)) []
      have rr := gotI_relT g (iv 0) rfl
      rw [loopP.eq_1, hall]
      simp [e_lb0_impl_ResidualsOf, T.len, restr, e_lk0x0_impl_ResidualsOf, hf, hq, e, rr]) () rfl
  rw [obind_assoc]
  simpa using L
theorem ok_impl_ResidualsOf : PureOK Try.prog n_impl_ResidualsOf (G1 few fun q => resR (q.getD [])) :=
  pureG1 (E2 ok_impl_isPredicted ok_impl_residualsOf) mixed hb_impl_ResidualsOf fun q hq => by
  have T := lookT q (w := 1) rfl
  have c60 : ((60 : Int) < (((q.getD []).length : Nat) : Int)) = (60 < (q.getD []).length) := propext ⟨by omega, by omega⟩
  by_cases h : 60 < (q.getD []).length
  · simp [e_impl_ResidualsOf, T.len, c60, h, resR]
  · have L := fun env he hf {y1 y4 y6 y7 y8 y19 y20} => @lp_impl_ResidualsOf env he hf y1 y4 y6 y7 y8 y19 y20 q hq
    simp [-List.all_eq_true, -List.all_eq_false, e_impl_ResidualsOf, T.len, c60, h, resR, envL] at L ⊢
    exact L _ rfl rfl

def frR (l : List Int) : AV := bif decide (60 < l.length) then .tup [nilS, iv 2] else match fromR [] l with
  | some o => .tup [nwi o, iv 0]
  | none => .tup [nilS, iv 2]
theorem lp_impl_FromResiduals (env : Nat → Contract) (he : env n_impl_isResidual = .pure (T1 fun n => within n (-1000000000) 1000000000)) (hf : env n_impl_predicted = .pure (G1 few fun q => iv (pred (q.getD [])))) (hg : env n_impl_isPredicted = .pure (T1 fun n => within n (-125000000) 125000000)) {y0 y1 y5 y8 y9 y10 y32 : AV} (q : Sl Int) (hq : (q.getD []).length ≤ 900) : ∀ (suf pre : List Int) (x : AV) (h : Heap) (out : List Int) (i : Nat), q.getD [] = pre ++ suf → i = pre.length → out.length = pre.length → GotI h x out →
    (obind (obind (loopP hm0_impl_FromResiduals xm0_impl_FromResiduals (lb0_impl_FromResiduals env) [y0, y1, .top, .top, x, y5, .top, .top, y8, y9, y10, Sl.enc q, iv ((q.getD []).length : Nat), iv (i : Nat), .top, .top, .top, .top, .top, .top, .top, .top, .top, .top, .top, .top, .top, .top, .top, .top, .top, .top, y32] h) fun r => lk0_impl_FromResiduals env r.1 r.2.1 r.2.2) fun p => release p.2 depth p.1) = some (match fromR out suf with
      | some o => .tup [nwi o, iv 0]
      | none => .tup [nilS, iv 2]) := by
  have T := lookT q (w := 1) rfl
  intro suf
  induction suf with
  | nil =>
    intro pre x h out i hl hi ha g
    have hni : ¬ i < (q.getD []).length := by rw [hl]; simp; omega
    have := gotI_relT g (iv 0) rfl
    rw [loopP.eq_1]
    simp [e_lb0_impl_FromResiduals, hni, restr, e_lk0x0_impl_FromResiduals, this, fromR]
  | cons v suf ih =>
    intro pre x h out i hl hi ha g
    subst hi
    have S := Stp.mk' hl (by rw [maxLen_eq]; omega)
    have S0 := S.lt
    cases c1 : within v (-1000000000) 1000000000
    · rw [loopP.eq_1]
      simp [e_lb0_impl_FromResiduals, S0, T.idx, T.load, S.idx, S.elt, cut, he, c1, restr, e_lk0r_impl_FromResiduals, fromR]
    · obtain ⟨p, sp, hp⟩ := gotI_snap g
      have fp : few p = true := by
        unfold few
        rw [hp]
        exact decide_eq_true (by omega)
      cases c2 : within (wr (pred out + v)) (-125000000) 125000000
      · rw [loopP.eq_1]
        simp [e_lb0_impl_FromResiduals, S0, T.idx, T.load, S.idx, S.elt, cut, he, c1, hf, sp, fp, hp, hg, c2, restr, e_lk0r_impl_FromResiduals, fromR]
      · obtain ⟨x', h', ea, g'⟩ := gotI_app g (by omega) (wr (pred out + v))
        have b0 : ∀ (u : Int) h, aBuildSlice [iv 0] 1 [(0, iv u)] h = some (.sl h.length 1 0 1, h ++ [⟨1, [[iv u]]⟩]) := fun u h => rfl
        have r := ih (pre ++ [v]) x' h' (out ++ [wr (pred out + v)]) (pre.length + 1) (by simp [hl]) (by simp) (by simp [ha]) g'
        rw [loopP.eq_1]
        simp [-Int.natCast_add, e_lb0_impl_FromResiduals, S0, T.idx, T.load, S.idx, S.elt, cut, he, c1, hf, sp, fp, hp, hg, c2, b0, ea, restr]
        rw [S.wr]
        simp at r
        simp [fromR, c1, c2, r]
theorem ok_impl_FromResiduals : PureOK Try.prog n_impl_FromResiduals (G1 few fun q => frR (q.getD [])) :=
  pureG1 (E3 ok_impl_isResidual ok_impl_predicted ok_impl_isPredicted) mixed hb_impl_FromResiduals fun q hq => by
  have T := lookT q (w := 1) rfl
  have c60 : ((60 : Int) < (((q.getD []).length : Nat) : Int)) = (60 < (q.getD []).length) := propext ⟨by omega, by omega⟩
  by_cases h : 60 < (q.getD []).length
  · simp [e_impl_FromResiduals, T.len, c60, h, frR]
  · have L := fun env he hf hg {y0 y1 y5 y8 y9 y10 y32} => @lp_impl_FromResiduals env he hf hg y0 y1 y5 y8 y9 y10 y32 q (by omega) (q.getD []) [] nilS [] [] 0 rfl rfl rfl (.inl ⟨rfl, rfl⟩)
    simp [envL] at L
    simp [e_impl_FromResiduals, T.len, c60, h, frR, envL]
    exact L _ rfl rfl rfl

theorem ok_laws_a2Long : PureOK Try.prog n_laws_a2Long (G2 (fun _ _ : Sl UInt8 => true) fun q p => bv (decide (3000 < (q.getD []).length) || decide (3000 < (p.getD []).length))) :=
  pureG2 E0 mixed hb_laws_a2Long fun q p _ => by
  have T := lookT q (w := 1) rfl
  have U := lookT p (w := 1) rfl
  have c1 : ((3000 : Int) < (((q.getD []).length : Nat) : Int)) = (3000 < (q.getD []).length) := propext ⟨by omega, by omega⟩
  have c2 : ((3000 : Int) < (((p.getD []).length : Nat) : Int)) = (3000 < (p.getD []).length) := propext ⟨by omega, by omega⟩
  by_cases h : 3000 < (q.getD []).length <;> simp [e_laws_a2Long, T.len, U.len, c1, c2, h]

def atV (q : Sl UInt8) (i n : Nat) : Nat := match (q.getD [])[i]? with
  | some b => b.toNat % n
  | none => 0
theorem atV_lt (q : Sl UInt8) (i : Nat) {n : Nat} (h : 0 < n) : atV q i n < n := by
  unfold atV
  split
  · exact Nat.mod_lt _ h
  · exact h
def atI (q : Sl UInt8) (i n : Int) : Int := (atV q i.toNat n.toNat : Nat)
theorem ok_laws_a2At : PureOK Try.prog n_laws_a2At (G3 (fun (_ : Sl UInt8) (i n : Int) => decide (0 ≤ i) && (decide (i ≤ 1000) && (decide (1 ≤ n) && decide (n ≤ 1000)))) fun q i n => iv (atI q i n)) :=
  pureG3 E0 mixed hb_laws_a2At fun q i n h => by
  simp at h
  obtain ⟨i, rfl⟩ := Int.eq_ofNat_of_zero_le h.1
  obtain ⟨n, rfl⟩ := Int.eq_ofNat_of_zero_le (show 0 ≤ n by omega)
  have T := lookT q (w := 1) rfl
  by_cases hi : i < (q.getD []).length
  · have h1 : ((((q.getD []).length : Nat) : Int) ≤ (i : Int)) = False := eq_false (by omega)
    have h2 : ((n : Int) < 1) = False := eq_false (by omega)
    obtain ⟨b, hb⟩ : ∃ b, (q.getD [])[i]'hi = b := ⟨_, rfl⟩
    have i1 : idx (iv (i : Int)) (q.getD []).length = some i := idx_lt hi
    have v1 : aConvInt .i64 (bt b) = some (iv (b.toNat : Nat)) := v_byte b
    have v2 : ((b.toNat : Nat) : Int).tmod (n : Int) = ((b.toNat % n : Nat) : Int) := (Int.ofNat_tmod b.toNat n).symm
    have e : atI q (i : Int) (n : Int) = ((b.toNat % n : Nat) : Int) := by simp [atI, atV, hi, hb]
    rw [e]
    simp only [e_laws_a2At, enc_sl, enc_int, T.len, obind_sm, aBin_geq, h1, decide_false, guardB_false, cond_false, aBin_lss, h2, obind2_sm, aPick_bv, condB_bv, T.idx, i1, T.load, List.getElem?_eq_getElem hi, hb, cells_byte, List.drop_zero, cut, v1, aBin_rem _ (n : Int) (by omega), v2, release_iv]
  · have h1 : ((((q.getD []).length : Nat) : Int) ≤ (i : Int)) = True := eq_true (by omega)
    have e : atI q (i : Int) (n : Int) = 0 := by
      have : (q.getD [])[i]? = none := List.getElem?_eq_none (by omega)
      simp [atI, atV, this]
    rw [e]
    simp [e_laws_a2At, T.len, h1]

def lineF (s : Int) (j n : Nat) : List Int := (List.range' j n).map fun (k : Nat) => 50 + s * (k : Int)
theorem lineF_len (s : Int) (j n : Nat) : (lineF s j n).length = n := by simp [lineF]
theorem lineF_get (s : Int) {n i : Nat} (h : i < n) : (lineF s 0 n).getD i 0 = 50 + s * (i : Int) := by
  rw [List.getD_eq_getElem?_getD]
  simp [lineF, h]
theorem lineF_snoc (s : Int) (n : Nat) : lineF s 0 n ++ [50 + s * (n : Int)] = lineF s 0 (n + 1) := by
  simp [lineF, List.range'_concat]
theorem mul_bound {s : Int} {k : Nat} (hs : -100 ≤ s ∧ s ≤ 100) (hk : k ≤ 30) : -3000 ≤ s * (k : Int) ∧ s * (k : Int) ≤ 3000 := by
  have h1 : s.natAbs ≤ 100 := by omega
  have h2 := Nat.mul_le_mul h1 hk
  have h3 : (s * (k : Int)).natAbs = s.natAbs * k := by rw [Int.natAbs_mul]; rfl
  omega
theorem lineF_zero {s : Int} (hs : -100 ≤ s ∧ s ≤ 100) : ∀ (n j : Nat), 2 ≤ j → j + n ≤ 30 → residA (lineF s 0 j) (lineF s j n) = List.replicate n 0
  | 0, _, _, _ => rfl
  | n + 1, j, h1, h2 => by
    have hc : lineF s j (n + 1) = (50 + s * (j : Int)) :: lineF s (j + 1) n := by simp [lineF, List.range'_succ]
    have b0 := mul_bound (k := j) hs (by omega)
    have b1 := mul_bound (k := j - 1) hs (by omega)
    have b2 := mul_bound (k := j - 2) hs (by omega)
    have e1 : s * ((j - 1 : Nat) : Int) = s * (j : Int) - s := by
      have : ((j - 1 : Nat) : Int) = (j : Int) - 1 := by omega
      rw [this, Int.mul_sub, Int.mul_one]
    have e2 : s * ((j - 2 : Nat) : Int) = s * (j : Int) - s * 2 := by
      have : ((j - 2 : Nat) : Int) = (j : Int) - 2 := by omega
      rw [this, Int.mul_sub]
    have hp : pred (lineF s 0 j) = 50 + s * (j : Int) := by
      unfold pred
      rw [lineF_len, if_neg (by omega), if_neg (by omega), lineF_get s (by omega), lineF_get s (by omega), wr_id (n := 2 * _) (by omega) (by omega), wr_id (by omega) (by omega)]
      omega
    rw [hc]
    have hz : wr (50 + s * (j : Int) - (50 + s * (j : Int))) = 0 := by rw [Int.sub_self]; decide
    simp only [residA, hp, hz, lineF_snoc, List.replicate_succ]
    rw [lineF_zero hs n (j + 1) (by omega) (by omega)]
theorem lineF_resid {s : Int} (hs : -100 ≤ s ∧ s ≤ 100) (n : Nat) (hn : n ≤ 28) : residA [] (lineF s 0 (n + 2)) = 50 :: s :: List.replicate n 0 := by
  have hc : lineF s 0 (n + 2) = 50 :: (50 + s) :: lineF s 2 n := by simp [lineF, List.range'_succ]
  have h2 : lineF s 0 2 = [50, 50 + s] := by simp [lineF, List.range'_succ]
  have z := lineF_zero hs n 2 (Nat.le_refl _) (by omega)
  rw [h2] at z
  have p0 : pred [] = 0 := rfl
  have p1 : pred [50] = 50 := rfl
  have w0 : wr (50 - 0) = 50 := by decide
  have w1 : wr (50 + s - 50) = s := by rw [wr_id (by omega) (by omega)]; omega
  rw [hc]
  simp only [residA, p0, p1, w0, w1, List.nil_append, List.cons_append, z]

theorem lp_laws_a2Numbers (env : Nat → Contract) (q p : Sl Int) (hq : fit q = true) (hl : (q.getD []).length = (p.getD []).length) : obind (loopP hm0_laws_a2Numbers xm0_laws_a2Numbers (lb0_laws_a2Numbers env) [Sl.enc q, Sl.enc p, und, und, .top, iv 0, Sl.enc q, iv ((q.getD []).length : Nat), Sl.enc p, iv ((p.getD []).length : Nat), bv false, .top, .top, .top, .top, .top, .top, .top, .top, .top, .top, .top, .top, .top, .top, .top] []) (fun r => lk0_laws_a2Numbers env r.1 r.2.1 r.2.2) = some (bif decide (q.getD [] = p.getD []) then (bv true, []) else (bv false, [])) := by
  have T := lookT q (w := 1) rfl
  have U := lookT p (w := 1) rfl
  have L := loop_eq (A := Int) hl (fit_max hq) (hmk := hm0_laws_a2Numbers) (xm := xm0_laws_a2Numbers) (body := lb0_laws_a2Numbers env) (K := fun r => lk0_laws_a2Numbers env r.1 r.2.1 r.2.2) [] (fun i => [Sl.enc q, Sl.enc p, und, und, .top, iv (i : Int), Sl.enc q, iv ((q.getD []).length : Nat), Sl.enc p, iv ((p.getD []).length : Nat), bv false, .top, .top, .top, .top, .top, .top, .top, .top, .top, .top, .top, .top, .top, .top, .top]) (bv true, []) (bv false, [])
    (by
      intro pre x y S h1 h2 h3
      have h4 : (p.getD [])[pre.length] = y := by simpa [h3] using h2
      rw [loopP.eq_1]
      simp [e_lb0_laws_a2Numbers, T.len, T.idx, T.load, U.idx, U.load, S.idx, S.lt, S.elt, h1, h3, h4, cut, S.wr]
      cases decide (x = y) <;> simp [restr, e_lk0r_laws_a2Numbers])
    (by
      rw [loopP.eq_1]
      simp [e_lb0_laws_a2Numbers, T.len, restr, e_lk0x0_laws_a2Numbers])
  simpa using L
theorem ok_laws_a2Numbers : PureOK Try.prog n_laws_a2Numbers (G2 (fun q _ : Sl Int => fit q) fun q p => bv (decide (q.getD [] = p.getD []))) :=
  pureG2 E0 mixed hb_laws_a2Numbers fun q p hq => by
  have T := lookT q (w := 1) rfl
  have U := lookT p (w := 1) rfl
  by_cases hl : (q.getD []).length = (p.getD []).length
  · have L := fun env => lp_laws_a2Numbers env q p hq hl
    simp [e_laws_a2Numbers, T.len, U.len, hl] at L ⊢
    simp [L]
  · have h2 : ¬ q.getD [] = p.getD [] := fun e => hl (by rw [e])
    have h3 : ¬ ((q.getD []).length : Int) = (p.getD []).length := by omega
    simp [e_laws_a2Numbers, T.len, U.len, h3, h2]

theorem lp1_laws_FnResiduals (env : Nat → Contract) {y0 y1 y2 y3 y5 y6 y7 y8 y9 y10 y12 y14 y16 y17 y18 y19 y20 y21 y22 y23 y24 y25 y26 y27 y28 y29 y30 y31 y32 y33 y34 y35 y36 y37 y38 y39 y40 y41 y42 y43 y44 y45 y46 y47 y48 y49 y50 y51 y52 y53 y54 y55 y56 y57 y58 y59 y60 y61 y62 y63 y64 y65 y66 y67 y68 y69 y70 y71 y72 y73 y74 y86 y87 y88 y89 y90 : AV} (H : Heap) (x : AV) (s : Int) (n : Nat) (hn : n ≤ 28) (T : Tab H x (some (50 :: s :: List.replicate n 0) : Sl Int)) :
    (obind (loopP hm1_laws_FnResiduals xm1_laws_FnResiduals (lb1_laws_FnResiduals env) [y0, y1, y2, y3, .top, y5, y6, y7, y8, y9, y10, iv s, y12, x, y14, iv 2, y16, y17, y18, y19, y20, y21, y22, y23, y24, y25, y26, y27, y28, y29, y30, y31, y32, y33, y34, y35, y36, y37, y38, y39, y40, y41, y42, y43, y44, y45, y46, y47, y48, y49, y50, y51, y52, y53, y54, y55, y56, y57, y58, y59, y60, y61, y62, y63, y64, y65, y66, y67, y68, y69, y70, y71, y72, y73, y74, .top, .top, .top, .top, .top, .top, .top, .top, .top, .top, .top, y86, y87, y88, y89, y90] H) fun r => lk1_laws_FnResiduals env r.1 r.2.1 r.2.2) = some (bv true, H) := by
  have hlen : (50 :: s :: List.replicate n 0).length = n + 2 := by simp
  have ti := T.idx
  simp only [w_int, Option.getD_some] at ti
  have tl := T.load
  simp only [Option.getD_some] at tl
  have tn := T.len
  simp only [Option.getD_some] at tn
  have L := loop_from (50 :: s :: List.replicate n 0) (by rw [maxLen_eq]; simp; omega) (hmk := hm1_laws_FnResiduals) (xm := xm1_laws_FnResiduals) (body := lb1_laws_FnResiduals env) (K := fun r => lk1_laws_FnResiduals env r.1 r.2.1 r.2.2) (σ := Unit) (fun _ (i : Nat) => [y0, y1, y2, y3, .top, y5, y6, y7, y8, y9, y10, iv s, y12, x, y14, iv (i : Nat), y16, y17, y18, y19, y20, y21, y22, y23, y24, y25, y26, y27, y28, y29, y30, y31, y32, y33, y34, y35, y36, y37, y38, y39, y40, y41, y42, y43, y44, y45, y46, y47, y48, y49, y50, y51, y52, y53, y54, y55, y56, y57, y58, y59, y60, y61, y62, y63, y64, y65, y66, y67, y68, y69, y70, y71, y72, y73, y74, .top, .top, .top, .top, .top, .top, .top, .top, .top, .top, .top, y86, y87, y88, y89, y90]) (fun _ => H)
    (fun _ suf => ∀ v ∈ suf, v = 0) (fun _ _ => some (bv true, H))
    (fun pre v suf u hl hi S => by
      right
      have hv : v = 0 := hi v (by simp)
      subst hv
      refine ⟨(), fun v hv => hi v (by simp [hv]), ?_, rfl⟩
      rw [loopP.eq_1]
      have S1 := S.lt
      have c1 : ((pre.length : Nat) : Int) < (((50 :: s :: List.replicate n 0).length : Nat) : Int) := by omega
      simp only [e_lb1_laws_FnResiduals, tn, obind_sm, aBin_lss, c1, decide_true, condB_bv, cond_true, ti, S.idx, tl, S.get, cells_int', List.drop_zero, cut, aCmp_ne, Bool.not_true, cond_false, aBin_add, S.wr, restr]
      simp)
    (fun u hi => by
      have i1 : Eng.idx (iv 1) (50 :: s :: List.replicate n 0).length = some 1 := idx_lt (i := 1) (by simp)
      have c1 : ¬ (((50 :: s :: List.replicate n 0).length : Nat) : Int) < (((50 :: s :: List.replicate n 0).length : Nat) : Int) := by omega
      rw [loopP.eq_1]
      simp only [e_lb1_laws_FnResiduals, tn, obind_sm, aBin_lss, c1, decide_false, condB_bv, cond_false, cond_true, restr, e_lk1x2_laws_FnResiduals, ti, i1, tl, List.getElem?_cons_succ, List.getElem?_cons_zero, cells_int', List.drop_zero, cut, aCmp_eq, decide_true]) [50, s] (List.replicate n 0) rfl () (fun v hv => (List.mem_replicate.1 hv).2)
  exact L
theorem okP_line {s : Int} (hs : -100 ≤ s ∧ s ≤ 100) (n : Nat) (hn : n ≤ 30) : (lineF s 0 n).all okP = true := by
  rw [List.all_eq_true]
  intro v hv
  unfold lineF at hv
  obtain ⟨k, hk, rfl⟩ := List.mem_map.1 hv
  have hk' : k < n := by simpa using hk
  have := mul_bound (k := k) hs (by omega)
  simp [okP, within]
  omega
theorem lp0_laws_FnResiduals (env : Nat → Contract) (ha : env n_laws_a2At = .pure (G3 (fun (_ : Sl UInt8) (i n : Int) => decide (0 ≤ i) && (decide (i ≤ 1000) && (decide (1 ≤ n) && decide (n ≤ 1000)))) fun q i n => iv (atI q i n))) (hr : env n_impl_ResidualsOf = .pure (G1 few fun q => resR (q.getD []))) {y0 y2 y3 y4 y5 y6 y7 y8 y9 y13 y14 y15 y16 y17 y18 y19 y20 y21 y22 y23 y24 y25 y26 y27 y28 y29 y30 y31 y32 y33 y34 y35 y36 y37 y38 y39 y40 y41 y42 y43 y44 y45 y46 y61 y62 y63 y64 y65 y66 y67 y68 y69 y70 y71 y72 y73 y74 y75 y76 y77 y78 y79 y80 y81 y82 y83 y84 y85 y86 y87 y88 y89 y90 : AV} (p : Sl UInt8) (s : Int) (hs : -100 ≤ s ∧ s ≤ 100) : ∀ (d k : Nat) (x : AV) (h : Heap), d + k = 3 + atV p 1 20 → GotO h x (lineF s 0 k) →
    ((obind (loopP hm0_laws_FnResiduals xm0_laws_FnResiduals (lb0_laws_FnResiduals env) [y0, Sl.enc p, y2, y3, y4, y5, y6, y7, y8, y9, x, iv s, iv (k : Nat), y13, y14, y15, y16, y17, y18, y19, y20, y21, y22, y23, y24, y25, y26, y27, y28, y29, y30, y31, y32, y33, y34, y35, y36, y37, y38, y39, y40, y41, y42, y43, y44, y45, y46, .top, .top, .top, .top, .top, .top, .top, .top, .top, .top, .top, .top, .top, .top, y61, y62, y63, y64, y65, y66, y67, y68, y69, y70, y71, y72, y73, y74, y75, y76, y77, y78, y79, y80, y81, y82, y83, y84, y85, y86, y87, y88, y89, y90] h) fun r => lk0_laws_FnResiduals env r.1 r.2.1 r.2.2).map Prod.fst) = some (bv true) := by
  have hm := atV_lt p 1 (n := 20) (by omega)
  obtain ⟨m, hmm⟩ : ∃ m, atV p 1 20 = m := ⟨_, rfl⟩
  rw [hmm] at hm
  have ai : atI p 1 20 = (m : Nat) := by rw [← hmm]; rfl
  have sn : ∀ h, snapD h (Sl.enc p) = some p := fun h => snapD_enc h p
  have w0 : wr (3 + ((m : Nat) : Int)) = ((3 + m : Nat) : Int) := by rw [wr_id (by omega) (by omega)]; omega
  intro d
  induction d with
  | zero =>
    intro k x h hd g
    rw [hmm] at hd
    have hk : k = m + 1 + 2 := by omega
    subst hk
    have hres := lineF_resid hs (m + 1) (by omega)
    have hall := okP_line hs (m + 1 + 2) (by omega)
    obtain ⟨o, rfl, ho⟩ := g
    rw [lineF_len] at *
    have s1 := snapD_sl (A := Int) h (lineF s 0 (m + 1 + 2)) ho (lineF_len _ _ _) (lineF_len _ _ _).symm
    have fw : few (some (lineF s 0 (m + 1 + 2))) = true := decide_eq_true (by simp only [Option.getD_some, lineF_len]; omega)
    have rr : resR (lineF s 0 (m + 1 + 2)) = .tup [nwl (50 :: s :: List.replicate (m + 1) 0), iv 0] := by
      have c : ¬ 60 < m + 1 + 2 := by omega
      simp only [resR, lineF_len, c, decide_false, cond_false, hall, Bool.not_true, hres]
      rfl
    have hlen : (50 :: s :: List.replicate (m + 1) 0).length = m + 1 + 2 := by simp
    have hd : ∀ ok h, hand (.tup [nwl (50 :: s :: List.replicate (m + 1) 0), iv 0]) ok h = some (.tup [.sl h.length (m + 1 + 2) 0 (m + 1 + 2), iv 0], h ++ [⟨1, (50 :: s :: List.replicate (m + 1) 0).map Row.cells⟩]) := by
      intro ok h
      have := hand_tup_nwl (A := Int) (50 :: s :: List.replicate (m + 1) 0) (isSc_iv 0) ok h
      rw [hlen] at this
      exact this
    have T : Tab (h ++ [⟨1, (50 :: s :: List.replicate (m + 1) 0).map Row.cells⟩]) (.sl h.length (m + 1 + 2) 0 (m + 1 + 2)) (some (50 :: s :: List.replicate (m + 1) 0) : Sl Int) := Tab.sl (by simp) hlen hlen.symm
    have L := fun {y0 y1 y2 y3 y5 y6 y7 y8 y9 y10 y12 y14 y16 y17 y18 y19 y20 y21 y22 y23 y24 y25 y26 y27 y28 y29 y30 y31 y32 y33 y34 y35 y36 y37 y38 y39 y40 y41 y42 y43 y44 y45 y46 y47 y48 y49 y50 y51 y52 y53 y54 y55 y56 y57 y58 y59 y60 y61 y62 y63 y64 y65 y66 y67 y68 y69 y70 y71 y72 y73 y74 y86 y87 y88 y89 y90} => @lp1_laws_FnResiduals env y0 y1 y2 y3 y5 y6 y7 y8 y9 y10 y12 y14 y16 y17 y18 y19 y20 y21 y22 y23 y24 y25 y26 y27 y28 y29 y30 y31 y32 y33 y34 y35 y36 y37 y38 y39 y40 y41 y42 y43 y44 y45 y46 y47 y48 y49 y50 y51 y52 y53 y54 y55 y56 y57 y58 y59 y60 y61 y62 y63 y64 y65 y66 y67 y68 y69 y70 y71 y72 y73 y74 y86 y87 y88 y89 y90 _ _ s (m + 1) (by omega) T
    have c1 : ¬ (((m + 1 + 2 : Nat) : Int)) < ((3 + m : Nat) : Int) := by omega
    rw [loopP.eq_1]
    simp only [e_lb0_laws_FnResiduals, ha, aCall_pure, callG3, sn, snapD_int, obind_sm, ai, hand_iv, obind2_sm, aBin_add, w0, aBin_lss, c1, decide_false, condB_bv, cond_false, restr, cond_true, e_lk0x0_laws_FnResiduals, hr, callG1, s1, fw, Option.getD_some, rr, hd, aExtract_tup, List.getElem?_cons_zero, List.getElem?_cons_succ, aCmp_ne, decide_true, Bool.not_true, guardB_false, aLenK_sl, aPick_bv, L, show (decide ((0 : Int) ≤ 1) && (decide ((1 : Int) ≤ 1000) && (decide ((1 : Int) ≤ 20) && decide ((20 : Int) ≤ 1000)))) = true from rfl, Option.map_some]
  | succ d ih =>
    intro k x h hd g
    rw [hmm] at hd ih
    have b0 := mul_bound (k := k) hs (by omega)
    have w1 : wr (s * (k : Int)) = s * (k : Int) := wr_id (by omega) (by omega)
    have w2 : wr (50 + s * (k : Int)) = 50 + s * (k : Int) := wr_id (by omega) (by omega)
    have w3 : wr ((k : Int) + 1) = ((k + 1 : Nat) : Int) := by rw [wr_id (by omega) (by omega)]; omega
    have c1 : (k : Int) < ((3 + m : Nat) : Int) := by omega
    have bb : ∀ (u : Int) h, aBuildSlice [iv 0] 1 [(0, iv u)] h = some (.sl h.length 1 0 1, h ++ [⟨1, [[iv u]]⟩]) := fun u h => rfl
    obtain ⟨x', h', ea, g', _⟩ := gotO_app g (by rw [lineF_len]; omega) (50 + s * (k : Int))
    rw [lineF_snoc] at g'
    have r := ih (k + 1) x' h' (by omega) g'
    rw [loopP.eq_1]
    simp only [e_lb0_laws_FnResiduals, ha, aCall_pure, callG3, sn, snapD_int, obind_sm, ai, hand_iv, obind2_sm, aBin_add, w0, aBin_lss, c1, decide_true, condB_bv, cond_true, aBin_mul, w1, w2, bb, ea, w3, restr, cond_false, show (decide ((0 : Int) ≤ 1) && (decide ((1 : Int) ≤ 1000) && (decide ((1 : Int) ≤ 20) && decide ((20 : Int) ≤ 1000)))) = true from rfl]
    exact r

theorem hand_nwiT (l : List Int) {c : AV} (hc : isSc c = true) (h : Heap) : ∃ x h', (∀ ok, hand (.tup [nwi l, c]) ok h = some (.tup [x, c], h')) ∧ GotI h' x l ∧ ∀ (i : Nat) (ob : AObj), h[i]? = some ob → h'[i]? = some ob := by
  cases l with
  | nil => exact ⟨nilS, h, fun ok => hand_tup (by intro a ha; simp only [List.mem_cons, List.not_mem_nil, or_false] at ha; rcases ha with rfl | rfl; exact plainC_nil; obtain ⟨v, rfl⟩ := isSc_ex hc; rfl) ok h, .inl ⟨rfl, rfl⟩, fun i ob e => e⟩
  | cons a r =>
    refine ⟨_, _, fun ok => hand_tup_nwl (a :: r) hc ok h, .inr ⟨by simp, h.length, rfl, by simp⟩, fun i ob e => ?_⟩
    have := (List.getElem?_eq_some_iff.1 e).1
    rw [List.getElem?_append_left this]
    exact e
theorem core_laws_FnResiduals (env : Nat → Contract) (he1 : env n_laws_a2Long = .pure (G2 (fun _ _ : Sl UInt8 => true) fun q p => bv (decide (3000 < (q.getD []).length) || decide (3000 < (p.getD []).length)))) (he2 : env n_spec_A2Numbers = .pure (G1 (fun q : Sl UInt8 => fit q) fun q => nwl (numsOf q)))
    (he3 : env n_impl_ResidualsOf = .pure (G1 few fun q => resR (q.getD []))) (he4 : env n_impl_FromResiduals = .pure (G1 few fun q => frR (q.getD []))) (he5 : env n_laws_a2Numbers = .pure (G2 (fun q _ : Sl Int => fit q) fun q p => bv (decide (q.getD [] = p.getD []))))
    (he6 : env n_laws_a2At = .pure (G3 (fun (_ : Sl UInt8) (i n : Int) => decide (0 ≤ i) && (decide (i ≤ 1000) && (decide (1 ≤ n) && decide (n ≤ 1000)))) fun q i n => iv (atI q i n))) (q p : Sl UInt8) : (denFn Try.prog env n_laws_FnResiduals [Sl.enc q, Sl.enc p] []).map Prod.fst = some (bv true) := by
  have sq : ∀ h, snapD h (Sl.enc q) = some q := fun h => snapD_enc h q
  have sp : ∀ h, snapD h (Sl.enc p) = some p := fun h => snapD_enc h p
  by_cases z : (decide (3000 < (q.getD []).length) || decide (3000 < (p.getD []).length)) = true
  · rw [e_laws_FnResiduals]
    simp only [he1, aCall_pure, callG2, sq, sp, obind_sm, cond_true, z, hand_bv, obind2_sm, condB_bv, Option.map_some]
  have zf : (decide (3000 < (q.getD []).length) || decide (3000 < (p.getD []).length)) = false := by simpa using z
  have zq : ¬ 3000 < (q.getD []).length := by
    simp only [Bool.or_eq_false_iff, decide_eq_false_iff_not] at zf
    exact zf.1
  have fq : fit q = true := by rw [fit_iff, wt_zero (fun _ => rfl) q]; omega
  obtain ⟨n1, n2, _⟩ := numsOf_ok q fq
  generalize hN : numsOf q = N at n1 n2
  have hall : N.all okP = true := by
    rw [List.all_eq_true]
    intro v hv
    have := n2 v hv
    simp [okP, within]
    omega
  have r1 : resR N = .tup [nwi (residA [] N), iv 0] := by
    have c : ¬ 60 < N.length := by omega
    simp only [resR, c, decide_false, cond_false, hall, Bool.not_true]
  have fr := from_resid N [] (by intro v hv; cases hv) n2
  have r2 : frR (residA [] N) = .tup [nwi N, iv 0] := by
    have c : ¬ 60 < N.length := by omega
    simp only [frR, residA_len, c, decide_false, cond_false, fr, List.nil_append]
  have s1 := snapD_sl (A := Int) [⟨1, N.map Row.cells⟩] (o := 0) (ep := N.length) (n := N.length) N rfl rfl rfl
  have f1 : few (some N) = true := decide_eq_true (by simp only [Option.getD_some]; omega)
  obtain ⟨x1, h1, e1, g1, k1⟩ := hand_nwiT (residA [] N) (isSc_iv 0) [⟨1, N.map Row.cells⟩]
  obtain ⟨p1, t1, u1⟩ := gotI_snap g1
  have f2 : few p1 = true := decide_eq_true (by rw [u1, residA_len]; omega)
  obtain ⟨x2, h2, e2, g2, k2⟩ := hand_nwiT N (isSc_iv 0) h1
  obtain ⟨p2, t2, u2⟩ := gotI_snap g2
  have f3 : fit p2 = true := by rw [fit_iff, wt_zero (fun _ => rfl) p2, u2]; omega
  have s2 := snapD_sl (A := Int) h2 (o := 0) (ep := N.length) (n := N.length) N (k2 0 _ (k1 0 _ rfl)) rfl rfl
  have a0 := atV_lt p 0 (n := 200) (by omega)
  have a1 : atI p 0 200 = ((atV p 0 200 : Nat) : Int) := rfl
  have w1 : wr (((atV p 0 200 : Nat) : Int) - 100) = ((atV p 0 200 : Nat) : Int) - 100 := wr_id (by omega) (by omega)
  have b0 : ∀ h, aBuildSlice [iv 0] 0 [] h = some (.sl h.length 0 0 0, h ++ [⟨1, []⟩]) := fun h => rfl
  have g3 : GotO (h2 ++ [⟨1, []⟩]) (.sl h2.length 0 0 0) (lineF (((atV p 0 200 : Nat) : Int) - 100) 0 0) := ⟨h2.length, rfl, by simp [lineF]⟩
  have L := fun env ha hr {y0 y2 y3 y4 y5 y6 y7 y8 y9 y13 y14 y15 y16 y17 y18 y19 y20 y21 y22 y23 y24 y25 y26 y27 y28 y29 y30 y31 y32 y33 y34 y35 y36 y37 y38 y39 y40 y41 y42 y43 y44 y45 y46 y61 y62 y63 y64 y65 y66 y67 y68 y69 y70 y71 y72 y73 y74 y75 y76 y77 y78 y79 y80 y81 y82 y83 y84 y85 y86 y87 y88 y89 y90} => @lp0_laws_FnResiduals env ha hr y0 y2 y3 y4 y5 y6 y7 y8 y9 y13 y14 y15 y16 y17 y18 y19 y20 y21 y22 y23 y24 y25 y26 y27 y28 y29 y30 y31 y32 y33 y34 y35 y36 y37 y38 y39 y40 y41 y42 y43 y44 y45 y46 y61 y62 y63 y64 y65 y66 y67 y68 y69 y70 y71 y72 y73 y74 y75 y76 y77 y78 y79 y80 y81 y82 y83 y84 y85 y86 y87 y88 y89 y90 p (((atV p 0 200 : Nat) : Int) - 100) ⟨by omega, by omega⟩ (3 + atV p 1 20) 0 _ _ rfl g3
  rw [e_laws_FnResiduals]
  simp only [he1, he2, he3, he4, he5, he6, aCall_pure, callG2, callG1, callG3, sq, sp, obind_sm, cond_true, cond_false, zf, hand_bv, obind2_sm, condB_bv, fq, hN, hand_nwl, w_int, List.length_nil, List.nil_append, s1, f1, Option.getD_some, r1, e1, aExtract_tup, List.getElem?_cons_zero, List.getElem?_cons_succ, t1, f2, u1, r2, e2, aCmp_ne, decide_true, Bool.not_true, guardB_false, aPick_bv, t2, s2, f3, u2, aUn_not, b0, snapD_int, a1, hand_iv, aBin_sub, w1, show (decide ((0 : Int) ≤ 0) && (decide ((0 : Int) ≤ 1000) && (decide ((1 : Int) ≤ 200) && decide ((200 : Int) ≤ 1000)))) = true from rfl]
  exact L env he6 he3
theorem ok_laws_FnResiduals : PureOK Try.prog n_laws_FnResiduals (G2 (fun a b : Sl UInt8 => Wt.big a && Wt.big b) fun _ _ => bv true) :=
  pureG2 (E6 ok_laws_a2Long ok_spec_A2Numbers ok_impl_ResidualsOf ok_impl_FromResiduals ok_laws_a2Numbers ok_laws_a2At) mixed hb_laws_FnResiduals fun q p _ =>
    plain_of rfl (core_laws_FnResiduals _ (by simp [envL]) (by simp [envL]) (by simp [envL]) (by simp [envL]) (by simp [envL]) (by simp [envL]) q p)
theorem law_FnResiduals (a b : Sl UInt8) (ha : Row.fine a) (hb : Row.fine b) : G2 (fun a b : Sl UInt8 => Wt.big a && Wt.big b) (fun _ _ => bv true) [enc a, enc b] = some (bv true) := G2_enc _ _ a b (by simp [Wt.fb a ha, Wt.fb b hb])

theorem isC_5 {cs : List AV} (h : IsC Try.prog 5 cs) : ∃ x : UInt8, cs = Row.cells x ∧ Row.fine x := by
  obtain ⟨n, rfl, hn⟩ := IsC.intE Try.underlying5 h
  exact byte_of hn
theorem isC_22 {cs : List AV} (h : IsC Try.prog 22 cs) : ∃ x : (Sl UInt8), cs = Row.cells x ∧ Row.fine x := by
  rcases IsC.sliceE Try.underlying22 h with rfl | ⟨rows, rfl, h1, h2⟩
  · exact ⟨none, rfl, Sl.fineNil⟩
  · exact Sl.isC (by kernel_rfl) h1 fun row hr => isC_5 (h2 row hr)
theorem own : ownKnob Try.prog.godebug = none := by kernel_rfl
theorem laidOut : laidOutB Try.prog = true := by kernel_rfl

set_option maxRecDepth 100000 in
theorem holds : Rows.FnResidualsSaid :=
  OpenClaim.holds_of_wide 4 Try.f4 rfl rfl rfl rfl rfl rfl rfl ⟨rfl, rfl, rfl, rfl, rfl⟩ rfl rfl rfl rfl rfl (by kernel_rfl) Try.func4 (by kernel_rfl)
    (of_decide_eq_true (by kernel_rfl)) (by unfold Func.isWrapper; rw [if_neg (by decide +kernel)]; exact ⟨rfl, rfl⟩)
    (fun os started H enc _ => law_lifted (C := Try.checked) (s := Rows.fnResidualsSpec) own started (by kernel_rfl) Try.func4
      (ChangeSpec.witness6 (enc := enc) (C := Try.checked) false ⟨#[], #[.slice none 0 0, .slice none 0 0], []⟩ 8 (by kernel_rfl) (by kernel_rfl) (by kernel_rfl) (by kernel_rfl))
      laidOut rfl (tb := 4) rfl Try.underlying4 (ts := [22, 5]) (by kernel_rfl)
      (fun ds h => by match ds, h with | [d0, d1], _ => rfl)
      hb_laws_FnResiduals ok_laws_FnResiduals (by
    intro l h
    obtain ⟨a0, l0, rfl, g0, k0⟩ := h
    obtain ⟨a1, l1, rfl, g1, k1⟩ := k0
    cases k1
    obtain ⟨b0, e0, w0⟩ := isC_22 (isV_one (by kernel_rfl) g0)
    obtain rfl := one_enc e0
    obtain ⟨b1, e1, w1⟩ := isC_22 (isV_one (by kernel_rfl) g1)
    obtain rfl := one_enc e1
    exact law_FnResiduals b0 b1 w0 w1))
#print axioms holds
end Go.Proofs.Ytbjooaoifmfmoaa
