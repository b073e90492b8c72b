/-
  The law FnThinned holds, for all arguments: it returns true, and its arguments read behind the call as before. No condition.
-/
import Derived.Test.YtdikndbpcceogaaFnThinnedPartB
import Derived.Test.YtdikndbpcceogaaRows
namespace Go.Proofs.Ytdikndbpcceogaa
open Go Go.Eng Go.Eng.Cod
set_option maxRecDepth 100000
set_option linter.unusedVariables false
set_option linter.unusedSimpArgs false

theorem sq_nn (a : Int) : 0 ≤ a * a := by
  rcases Int.le_total 0 a with h | h
  · exact Int.mul_nonneg h h
  · have := Int.mul_nonneg (show 0 ≤ -a by omega) (show 0 ≤ -a by omega)
    rwa [Int.neg_mul_neg] at this

theorem pt_v {l : List Point} (h : StV l) {i : Nat} (hi : i < l.length) : PtV (pt l i) := by
  have g := get_pt hi
  exact h.pts _ (List.mem_of_getElem? (getI_iff.1 g).2)

def d2 (a b : Point) : Int := (a.x - b.x) * (a.x - b.x) + (a.y - b.y) * (a.y - b.y)

theorem sq_le {x : Int} (h1 : -4095 ≤ x) (h2 : x ≤ 4095) : 0 ≤ x * x ∧ x * x ≤ 16769025 := by
  refine ⟨sq_nn x, ?_⟩
  have e : ((x * x).natAbs : Int) ≤ 16769025 := by
    rw [Int.natAbs_mul]
    have := Nat.mul_le_mul (show x.natAbs ≤ 4095 by omega) (show x.natAbs ≤ 4095 by omega)
    omega
  omega

theorem d2_ok {a b : Point} (ha : PtV a) (hb : PtV b) : 0 ≤ d2 a b ∧ d2 a b ≤ 33538050 ∧ wr (wr (wr (a.x - b.x) * wr (a.x - b.x)) + wr (wr (a.y - b.y) * wr (a.y - b.y))) = d2 a b := by
  obtain ⟨a1, a2, a3, a4, _, _⟩ := ha
  obtain ⟨b1, b2, b3, b4, _, _⟩ := hb
  have h1 := sq_le (x := a.x - b.x) (by omega) (by omega)
  have h2 := sq_le (x := a.y - b.y) (by omega) (by omega)
  unfold d2
  have w1 : wr (a.x - b.x) = a.x - b.x := wr_id (by omega) (by omega)
  have w2 : wr (a.y - b.y) = a.y - b.y := wr_id (by omega) (by omega)
  rw [w1, w2, wr_id (n := (a.x - b.x) * (a.x - b.x)) (by omega) (by omega), wr_id (n := (a.y - b.y) * (a.y - b.y)) (by omega) (by omega), wr_id (by omega) (by omega)]
  exact ⟨by omega, by omega, rfl⟩

theorem squared_ok {a b : Point} (ha : PtV a) (hb : PtV b) : t_impl_squared a b = some (d2 a b) := by
  unfold t_impl_squared
  rw [(d2_ok ha hb).2.2]

theorem l05Far_ok {a b : Point} (ha : PtV a) (hb : PtV b) : t_spec_l05Far a b = some (d2 a b) := by
  unfold t_spec_l05Far
  rw [(d2_ok ha hb).2.2]

def lenP (a b : Point) : Int := ((isq (256 * d2 a b).toNat : Nat) : Int)

theorem rootO_ok {n : Int} (h0 : 0 ≤ n) (h1 : n ≤ 1000000000000000) : rootO n = some ((isq n.toNat : Nat) : Int) := by
  unfold rootO
  simp [h0, h1]

theorem lengthOf_ok {a b : Point} (ha : PtV a) (hb : PtV b) : t_impl_lengthOf a b = some (lenP a b) ∧ t_spec_l05Length a b = some (lenP a b) := by
  obtain ⟨h1, h2, _⟩ := d2_ok ha hb
  have w : wr (256 * d2 a b) = 256 * d2 a b := wr_id (by omega) (by omega)
  have r := rootO_ok (n := 256 * d2 a b) (by omega) (by omega)
  unfold t_impl_lengthOf t_spec_l05Length t_impl_rootOf t_spec_l05Root
  simp only [squared_ok ha hb, l05Far_ok ha hb, obind_sm, w, r]
  exact ⟨rfl, rfl⟩

theorem firstOf_ok {s : Stroke} (h : StV (s.points.getD [])) : t_impl_firstOf s = some (pt (s.points.getD []) 0) ∧ getI (s.points.getD []) 0 = some (pt (s.points.getD []) 0) := by
  have g : getI (s.points.getD []) 0 = some (pt (s.points.getD []) 0) := get_pt (l := s.points.getD []) (i := 0) h.n1
  unfold t_impl_firstOf
  rw [g, obind_sm]
  exact ⟨rfl, rfl⟩

theorem sameStroke_ok {a b : Stroke} (h : a.points.getD [] = b.points.getD []) (hl : (a.points.getD []).length ≤ 4294967296) : t_spec_l02SameStroke a b = some true := by
  have lp := loopT_first (step := s0_spec_l02SameStroke a b) (a.points.getD []) (fun _ _ => (none : Option Bool)) (.inl ()) .inr
    (fun k x hx => by
      have hk := get_lt hx
      have c : (k : Int) < ((a.points.getD []).length : Nat) := by omega
      unfold s0_spec_l02SameStroke
      simp only [c, decide_true, cond_true, getI_nat hx, ← h, obind_sm, Bool.not_true, cond_false, wr_succ hk hl])
    (by
      unfold s0_spec_l02SameStroke
      simp only [Int.lt_irrefl, decide_false, cond_false])
  rw [firstL_none (fun _ _ _ => rfl)] at lp
  unfold t_spec_l02SameStroke
  rw [lp, ← h]
  simp

theorem f6stroke_ok {a b : Stroke} (h : a.points.getD [] = b.points.getD []) (hl : (a.points.getD []).length ≤ 4294967296) : t_laws_f6stroke a b = some true := by
  have lp := loopT_first (step := s0_spec_l02Same ⟨some [a]⟩ ⟨some [b]⟩) [a] (fun _ _ => (none : Option Bool)) (.inl ()) .inr
    (fun k x hx => by
      have hk := get_lt hx
      simp only [List.length_cons, List.length_nil] at hk
      have k0 : k = 0 := by omega
      subst k0
      simp only [List.getElem?_cons_zero, Option.some.injEq] at hx
      subst hx
      have g1 : getI [a] ((0 : Nat) : Int) = some a := getI_nat rfl
      have g2 : getI [b] ((0 : Nat) : Int) = some b := getI_nat rfl
      have c : ((0 : Nat) : Int) < (([a].length : Nat) : Int) := by simp
      have w : wr (((0 : Nat) : Int) + 1) = ((0 + 1 : Nat) : Int) := by decide
      unfold s0_spec_l02Same
      simp only [Option.getD_some, c, decide_true, cond_true, g1, g2, obind_sm, sameStroke_ok h hl, Bool.not_true, cond_false, w])
    (by
      unfold s0_spec_l02Same
      simp only [Option.getD_some, Int.lt_irrefl, decide_false, cond_false])
  rw [firstL_none (fun _ _ _ => rfl)] at lp
  unfold t_laws_f6stroke t_spec_SameInk t_spec_l02Same
  rw [lp]
  simp

theorem pt_some {l : List Point} {k : Nat} (hk : k < l.length) : l[k]? = some (pt l k) := (getI_iff.1 (get_pt hk)).2

def pbox (p : Point) : Box := ⟨p.x, p.y, p.x, p.y⟩

def bxN (l : List Point) : Nat → Box
  | 0 => pbox (pt l 0)
  | k + 1 => joinBox (bxN l k) (pbox (pt l k))

def bxS (l : List Point) : Box := bxN l l.length

/-- One box is in another one. -/
structure InB (a b : Box) : Prop where
  x1 : b.x1 ≤ a.x1
  y1 : b.y1 ≤ a.y1
  x2 : a.x2 ≤ b.x2
  y2 : a.y2 ≤ b.y2

theorem InB.refl (a : Box) : InB a a := ⟨Int.le_refl _, Int.le_refl _, Int.le_refl _, Int.le_refl _⟩

theorem InB.trans {a b c : Box} (h : InB a b) (g : InB b c) : InB a c := ⟨Int.le_trans g.x1 h.x1, Int.le_trans g.y1 h.y1, Int.le_trans h.x2 g.x2, Int.le_trans h.y2 g.y2⟩

theorem join_l (a b : Box) : InB a (joinBox a b) := by unfold joinBox; exact ⟨by simp only; omega, by simp only; omega, by simp only; omega, by simp only; omega⟩

theorem join_r (a b : Box) : InB b (joinBox a b) := by unfold joinBox; exact ⟨by simp only; omega, by simp only; omega, by simp only; omega, by simp only; omega⟩

theorem join_min {a b c : Box} (h : InB a c) (g : InB b c) : InB (joinBox a b) c := by
  obtain ⟨h1, h2, h3, h4⟩ := h
  obtain ⟨g1, g2, g3, g4⟩ := g
  unfold joinBox
  exact ⟨by simp only; omega, by simp only; omega, by simp only; omega, by simp only; omega⟩

theorem InB.anti {a b : Box} (h : InB a b) (g : InB b a) : a = b := by
  obtain ⟨h1, h2, h3, h4⟩ := h
  obtain ⟨g1, g2, g3, g4⟩ := g
  obtain ⟨a1, a2, a3, a4⟩ := a
  obtain ⟨b1, b2, b3, b4⟩ := b
  simp only at *
  have e1 : a1 = b1 := by omega
  have e2 : a2 = b2 := by omega
  have e3 : a3 = b3 := by omega
  have e4 : a4 = b4 := by omega
  subst e1 e2 e3 e4
  rfl

theorem join_in {a b : Box} (h : InB b a) : joinBox a b = a := (join_min (InB.refl a) h).anti (join_l a b)

theorem bxN_in (l : List Point) : ∀ {k i : Nat}, i < k → InB (pbox (pt l i)) (bxN l k)
  | 0, i, h => by omega
  | k + 1, i, h => by
    by_cases c : i = k
    · subst c
      exact join_r _ _
    · exact (bxN_in l (k := k) (by omega)).trans (join_l _ _)

theorem bxN_min {l : List Point} {b : Box} (n1 : 1 ≤ l.length) (h : ∀ i, i < l.length → InB (pbox (pt l i)) b) : ∀ {k : Nat}, k ≤ l.length → InB (bxN l k) b
  | 0, _ => h 0 n1
  | k + 1, hk => join_min (bxN_min n1 h (k := k) (by omega)) (h k (by omega))

theorem PtV.box {p : Point} (h : PtV p) : InB (pbox p) ⟨0, 0, 4095, 4095⟩ := ⟨h.x0, h.y0, h.x1, h.y1⟩

theorem bxS_valid {l : List Point} (h : StV l) : validBox (bxS l) = true := by
  have n1 := h.n1
  have o := bxN_min (l := l) n1 (fun i hi => (pt_v h hi).box) (k := l.length) (Nat.le_refl _)
  have i0 := bxN_in l (k := l.length) (i := 0) (by omega)
  have o' : InB (bxS l) ⟨0, 0, 4095, 4095⟩ := o
  have i0' : InB (pbox (pt l 0)) (bxS l) := i0
  obtain ⟨o1, o2, o3, o4⟩ := o'
  obtain ⟨i1, i2, i3, i4⟩ := i0'
  unfold validBox within
  unfold pbox at *
  simp only at *
  simp only [Bool.and_eq_true, decide_eq_true_eq]
  omega

theorem boxOfStroke_ok {s : Stroke} (h : StV (s.points.getD [])) : t_impl_boxOfStroke s = some (bxS (s.points.getD [])) := by
  have n1 := h.n1
  have n2 := h.n2
  obtain ⟨l, hL⟩ : ∃ l, s.points.getD [] = l := ⟨_, rfl⟩
  have fo := (firstOf_ok h).1
  rw [hL] at h n1 n2 fo ⊢
  have lp := loopT_at (step := s0_impl_boxOfStroke s) l.length (fun k => ((bxN l k).x1, (bxN l k).y1, (bxN l k).x2, (bxN l k).y2, (k : Int))) ((bxS l).x1, (bxS l).y1, (bxS l).x2, (bxS l).y2)
    (fun k hk => by
      have c : (k : Int) < ((l.length : Nat) : Int) := by omega
      unfold s0_impl_boxOfStroke
      simp only [hL, c, decide_true, cond_true, get_pt hk, obind_sm, wr_succ hk (by omega)]
      rfl)
    (by
      unfold s0_impl_boxOfStroke
      simp only [hL, Int.lt_irrefl, decide_false, cond_false]
      rfl)
    0 (Nat.zero_le _)
  have lp' : loopT (s0_impl_boxOfStroke s) ((pt l 0).x, (pt l 0).y, (pt l 0).x, (pt l 0).y, 0) = some ((bxS l).x1, (bxS l).y1, (bxS l).x2, (bxS l).y2) := lp
  unfold t_impl_boxOfStroke
  simp only [fo, obind_sm, lp']

theorem boxSt_ok (s : Stroke) (h : StV (s.points.getD [])) : t_impl_BoxOfStroke s = some (bxS (s.points.getD []), 0) := by
  have n2 := h.n2
  unfold t_impl_BoxOfStroke
  simp only [validStroke_vS s (by omega), vS_iff.2 h, obind_sm, Bool.not_true, cond_false, boxOfStroke_ok h]

theorem joinB_ok {a b : Box} (ha : validBox a = true) (hb : validBox b = true) : t_impl_JoinBoxes a b = some (joinBox a b, 0) := by
  unfold t_impl_JoinBoxes
  simp only [ha, hb, obind_sm, Bool.not_true, cond_false]

theorem quo_nn {n d : Int} (h0 : 0 ≤ n) (h1 : n ≤ 1000000000) (hd : 0 < d) : quoI n d = some (n / d) ∧ remI n d = some (n % d) := by
  have z : ¬ d = 0 := by omega
  unfold quoI remI
  have q0 := Int.ediv_nonneg h0 (Int.le_of_lt hd)
  have q1 : n / d ≤ n := Int.ediv_le_self d h0
  simp only [z, decide_false, cond_false, Int.tdiv_eq_ediv_of_nonneg h0, Int.tmod_eq_emod_of_nonneg h0]
  exact ⟨by rw [wr_id (by omega) (by omega)], by first | rfl | trivial⟩

theorem near4 {n : Int} (h0 : 0 ≤ n) (h1 : n ≤ 1000000) : t_impl_nearestDiv n 4 = some ((n + 2) / 4) ∧ t_spec_l05Near n 4 = some ((n + 2) / 4) := by
  constructor
  · obtain ⟨e1, e2⟩ := quo_nn (n := n) (d := 4) h0 (by omega) (by omega)
    have c : ¬ n % 4 < 0 := by omega
    have w1 : wr (n / 4 * 4) = n / 4 * 4 := wr_id (by omega) (by omega)
    have w2 : wr (n - n / 4 * 4) = n - n / 4 * 4 := wr_id (by omega) (by omega)
    have w3 : wr (4 - (n - n / 4 * 4)) = 4 - (n - n / 4 * 4) := wr_id (by omega) (by omega)
    have w4 : wr (n / 4 + 1) = n / 4 + 1 := wr_id (by omega) (by omega)
    unfold t_impl_nearestDiv t_impl_floorDiv
    simp only [e1, e2, obind_sm, c, decide_false, cond_false, w1, w2, w3, w4]
    by_cases g : 4 - (n - n / 4 * 4) ≤ n - n / 4 * 4
    · simp only [g, decide_true, cond_true]
      congr 1
      omega
    · simp only [g, decide_false, cond_false]
      congr 1
      omega
  · have w1 : wr (2 * n) = 2 * n := wr_id (by omega) (by omega)
    have w2 : wr (2 * n + 4) = 2 * n + 4 := wr_id (by omega) (by omega)
    have w3 : wr ((2 : Int) * 4) = 8 := by decide
    obtain ⟨e1, e2⟩ := quo_nn (n := 2 * n + 4) (d := 8) (by omega) (by omega) (by omega)
    have c : ¬ (2 * n + 4) % 8 < 0 := by omega
    unfold t_spec_l05Near t_spec_l05Down
    simp only [w1, w2, w3, e1, e2, obind_sm, c, decide_false, cond_false]
    congr 1
    omega

/-- A point between its neighbours. -/
def smP (l : List Point) (i : Nat) : Point := bif decide (0 < i) && decide (i + 1 < l.length) then ⟨((pt l (i - 1)).x + 2 * (pt l i).x + (pt l (i + 1)).x + 2) / 4, ((pt l (i - 1)).y + 2 * (pt l i).y + (pt l (i + 1)).y + 2) / 4, (pt l i).t⟩ else pt l i

def smT (l : List Point) (k : Nat) (j : Nat) : Point := bif decide (j < k) then smP l j else pt l j

theorem smP_end {l : List Point} {i : Nat} (h : ¬ (0 < i ∧ i + 1 < l.length)) : smP l i = pt l i := by
  unfold smP
  have : (decide (0 < i) && decide (i + 1 < l.length)) = false := by
    cases h1 : decide (0 < i) with
    | false => rfl
    | true =>
      cases h2 : decide (i + 1 < l.length) with
      | false => rfl
      | true => exact absurd ⟨of_decide_eq_true h1, of_decide_eq_true h2⟩ h
  rw [this]
  rfl

theorem smP_mid {l : List Point} {i : Nat} (h0 : 0 < i) (h1 : i + 1 < l.length) : smP l i = ⟨((pt l (i - 1)).x + 2 * (pt l i).x + (pt l (i + 1)).x + 2) / 4, ((pt l (i - 1)).y + 2 * (pt l i).y + (pt l (i + 1)).y + 2) / 4, (pt l i).t⟩ := by
  unfold smP
  simp [h0, h1]

theorem smLoop {s : Stroke} (h : StV (s.points.getD [])) (step : ((Sl Point) × Int) → Option (Sum ((Sl Point) × Int) (Sl Point)))
    (next : ∀ (L : List Point) (k : Nat), L.length = (s.points.getD []).length → 0 < k → k + 1 < (s.points.getD []).length → L[k]? = some (pt (s.points.getD []) k) → step (some L, (k : Int)) = some (.inl (some (L.set k (smP (s.points.getD []) k)), wr ((k : Int) + 1))))
    (fin : ∀ (w : Sl Point) (k : Int), ¬ wr (k + 1) < (((s.points.getD []).length : Nat) : Int) → step (w, k) = some (.inr w)) :
    ∃ L, loopT step (some (s.points.getD []), 1) = some (some L) ∧ L.length = (s.points.getD []).length ∧ ∀ j, j < (s.points.getD []).length → L[j]? = some (smP (s.points.getD []) j) := by
  have n1 := h.n1
  have n2 := h.n2
  obtain ⟨l, hL⟩ : ∃ l, s.points.getD [] = l := ⟨_, rfl⟩
  rw [hL] at h n1 n2 next fin ⊢
  obtain ⟨q, e, L, rfl, h1, h2⟩ := loopT_ex (step := step) (fun k t => ∃ L, t = (some L, ((k + 1 : Nat) : Int)) ∧ L.length = l.length ∧ ∀ j, j < l.length → L[j]? = some (smT l (k + 1) j)) (l.length - 2) (fun q => ∃ L, q = some L ∧ L.length = l.length ∧ ∀ j, j < l.length → L[j]? = some (smP l j))
    (fun k t hk ht => by
      obtain ⟨L, rfl, g1, g2⟩ := ht
      have gk := g2 (k + 1) (by omega)
      have e0 : smT l (k + 1) (k + 1) = pt l (k + 1) := by unfold smT; simp
      rw [e0] at gk
      have e := next L (k + 1) g1 (by omega) (by omega) gk
      have ws : wr (((k + 1 : Nat) : Int) + 1) = ((k + 1 + 1 : Nat) : Int) := by rw [wr_id (by omega) (by omega)]; omega
      rw [ws] at e
      refine .inl ⟨_, e, _, rfl, by rw [List.length_set, g1], fun j hj => ?_⟩
      by_cases c : j = k + 1
      · subst c
        rw [List.getElem?_set_self (by omega)]
        unfold smT
        simp
      · rw [List.getElem?_set_ne (fun h => c h.symm), g2 j hj]
        have : decide (j < k + 1) = decide (j < k + 1 + 1) := decide_eq_decide.2 (by omega)
        unfold smT
        rw [this])
    (fun t ht => by
      obtain ⟨L, rfl, g1, g2⟩ := ht
      have ws : wr (((l.length - 2 + 1 : Nat) : Int) + 1) = ((l.length - 2 + 1 + 1 : Nat) : Int) := by rw [wr_id (by omega) (by omega)]; omega
      refine ⟨some L, fin _ _ (by rw [ws]; omega), L, rfl, g1, fun j hj => ?_⟩
      rw [g2 j hj]
      unfold smT
      cases c : decide (j < l.length - 2 + 1) with
      | true => rfl
      | false =>
        have c' := of_decide_eq_false c
        rw [smP_end (by omega)]
        rfl)
    (s := (some l, 1)) ⟨l, rfl, rfl, fun j hj => by
      rw [pt_some hj]
      unfold smT
      cases c : decide (j < 0 + 1) with
      | true =>
        have c' := of_decide_eq_true c
        rw [smP_end (by omega)]
        rfl
      | false => rfl⟩
  exact ⟨L, e, h1, h2⟩

theorem smN {l : List Point} (h : StV l) {k : Nat} (h0 : 0 < k) (hk : k + 1 < l.length) : wr ((k : Int) - 1) = ((k - 1 : Nat) : Int) ∧ wr ((k : Int) + 1) = ((k + 1 : Nat) : Int) ∧ wr (wr ((pt l (k - 1)).x + wr (2 * (pt l k).x)) + (pt l (k + 1)).x) = (pt l (k - 1)).x + 2 * (pt l k).x + (pt l (k + 1)).x ∧ wr (wr ((pt l (k - 1)).y + wr (2 * (pt l k).y)) + (pt l (k + 1)).y) = (pt l (k - 1)).y + 2 * (pt l k).y + (pt l (k + 1)).y ∧
    (0 ≤ (pt l (k - 1)).x + 2 * (pt l k).x + (pt l (k + 1)).x ∧ (pt l (k - 1)).x + 2 * (pt l k).x + (pt l (k + 1)).x ≤ 1000000) ∧ (0 ≤ (pt l (k - 1)).y + 2 * (pt l k).y + (pt l (k + 1)).y ∧ (pt l (k - 1)).y + 2 * (pt l k).y + (pt l (k + 1)).y ≤ 1000000) := by
  have n2 := h.n2
  have a := pt_v h (i := k - 1) (by omega)
  have b := pt_v h (i := k) (by omega)
  have c := pt_v h (i := k + 1) (by omega)
  obtain ⟨a1, a2, a3, a4, _, _⟩ := a
  obtain ⟨b1, b2, b3, b4, _, _⟩ := b
  obtain ⟨c1, c2, c3, c4, _, _⟩ := c
  refine ⟨by rw [wr_id (by omega) (by omega)]; omega, by rw [wr_id (by omega) (by omega)]; omega, ?_, ?_, by omega, by omega⟩
  · rw [wr_id (n := 2 * (pt l k).x) (by omega) (by omega), wr_id (n := (pt l (k - 1)).x + 2 * (pt l k).x) (by omega) (by omega), wr_id (by omega) (by omega)]
  · rw [wr_id (n := 2 * (pt l k).y) (by omega) (by omega), wr_id (n := (pt l (k - 1)).y + 2 * (pt l k).y) (by omega) (by omega), wr_id (by omega) (by omega)]

theorem own_app (s : Sl Point) (hl : (s.getD []).length ≤ 1000) : appO (some ([] : List Point)) (s.getD []) = some (some (s.getD [])) := by
  rw [appO_some (by simp only [Option.getD_some, List.length_nil]; omega)]
  rfl

theorem implSmooth_ok (s : Stroke) (hs : StB s) : (vS (s.points.getD []) = false ∧ t_impl_SmoothStroke s = some (⟨none⟩, 1)) ∨ (StV (s.points.getD []) ∧ ∃ L, t_impl_SmoothStroke s = some (⟨some L⟩, 0) ∧ L.length = (s.points.getD []).length ∧ ∀ j, j < (s.points.getD []).length → L[j]? = some (smP (s.points.getD []) j)) := by
  unfold t_impl_SmoothStroke
  rw [validStroke_vS s hs.le]
  cases hv : vS (s.points.getD []) with
  | false => exact .inl ⟨rfl, rfl⟩
  | true =>
    have h := vS_iff.1 hv
    have n1 := h.n1
    have n2 := h.n2
    have cl : t_slices_Clone_impl_Point_impl_Point s.points = some (some (s.points.getD [])) := by
      unfold t_slices_Clone_impl_Point_impl_Point
      cases e : s.points with
      | none => rw [e] at n1; simp at n1
      | some l =>
        have := own_app (some l) (by rw [e] at n2; omega)
        simp only [Option.getD_some] at this
        simp only [Option.isNone_some, cond_false, Option.getD_some, this, obind_sm]
        rfl
    obtain ⟨L, e, h1, h2⟩ := smLoop h (s0_impl_SmoothStroke s) (fun L k hl h0 hk hg => by
      obtain ⟨w1, w2, w3, w4, b1, b2⟩ := smN h h0 hk
      have c : ((k + 1 : Nat) : Int) < (((s.points.getD []).length : Nat) : Int) := by omega
      have q1 := (near4 b1.1 b1.2).1
      have q2 := (near4 b2.1 b2.2).1
      have st : ∀ x : Point, setS (some L) (k : Int) x = some (L.set k x) := fun x => by simp only [setS, Option.map_some, Int.toNat_natCast]
      have st2 : ∀ x y : Point, setS (some (L.set k x)) (k : Int) y = some (L.set k y) := fun x y => by simp only [setS, Option.map_some, Int.toNat_natCast, List.set_set]
      have g2 : ∀ x : Point, getI (L.set k x) (k : Int) = some x := fun x => getI_nat (List.getElem?_set_self (get_lt hg))
      unfold s0_impl_SmoothStroke
      simp only [w2, c, decide_true, cond_true, w1, get_pt (l := s.points.getD []) (i := k - 1) (by omega), get_pt (l := s.points.getD []) (i := k) (by omega), get_pt hk, obind_sm, w3, w4, q1, q2, Option.getD_some, getI_nat hg, st, g2, st2, smP_mid h0 hk]) (fun w k c => by
      unfold s0_impl_SmoothStroke
      simp only [c, decide_false, cond_false])
    refine .inr ⟨h, L, ?_, h1, h2⟩
    simp only [obind_sm, Bool.not_true, cond_false, cl, e]

theorem specSmooth_ok (s : Stroke) (hs : StB s) : (vS (s.points.getD []) = false ∧ t_spec_SmoothStroke s = some (⟨none⟩, 1)) ∨ (StV (s.points.getD []) ∧ ∃ L, t_spec_SmoothStroke s = some (⟨some L⟩, 0) ∧ L.length = (s.points.getD []).length ∧ ∀ j, j < (s.points.getD []).length → L[j]? = some (smP (s.points.getD []) j)) := by
  unfold t_spec_SmoothStroke
  rw [l02Stroke_vS s hs.le]
  cases hv : vS (s.points.getD []) with
  | false => exact .inl ⟨rfl, rfl⟩
  | true =>
    have h := vS_iff.1 hv
    have n1 := h.n1
    have n2 := h.n2
    have cl : t_spec_l02OwnStroke s = some ⟨some (s.points.getD [])⟩ := by
      unfold t_spec_l02OwnStroke
      rw [own_app s.points (by omega), obind_sm]
      rfl
    obtain ⟨L, e, h1, h2⟩ := smLoop h (s0_spec_SmoothStroke s) (fun L k hl h0 hk hg => by
      obtain ⟨w1, w2, w3, w4, b1, b2⟩ := smN h h0 hk
      have c : ((k + 1 : Nat) : Int) < (((s.points.getD []).length : Nat) : Int) := by omega
      have q1 := (near4 b1.1 b1.2).2
      have q2 := (near4 b2.1 b2.2).2
      have st : ∀ x : Point, setS (some L) (k : Int) x = some (L.set k x) := fun x => by simp only [setS, Option.map_some, Int.toNat_natCast]
      unfold s0_spec_SmoothStroke
      simp only [w2, c, decide_true, cond_true, w1, get_pt (l := s.points.getD []) (i := k - 1) (by omega), get_pt (l := s.points.getD []) (i := k) (by omega), get_pt hk, obind_sm, w3, w4, q1, q2, Option.getD_some, getI_nat hg, st, smP_mid h0 hk]) (fun w k c => by
      unfold s0_spec_SmoothStroke
      simp only [c, decide_false, cond_false])
    refine .inr ⟨h, L, ?_, h1, h2⟩
    simp only [obind_sm, Bool.not_true, cond_false, cl, e]

/-- The list that stays of the points up to `k`. -/
def thinN (l : List Point) (st : Int) : Nat → List Point
  | 0 => [pt l 0]
  | k + 1 => bif decide (k + 1 = l.length - 1) || decide (16 * st ≤ lenP (pt (thinN l st k) ((thinN l st k).length - 1)) (pt l (k + 1))) then thinN l st k ++ [pt l (k + 1)] else thinN l st k

/-- What the thinning keeps. -/
structure ThI (l : List Point) (k : Nat) (L : List Point) : Prop where
  n1 : 1 ≤ L.length
  n2 : L.length ≤ k + 1
  pts : ∀ p ∈ L, PtV p ∧ p.t ≤ (pt l k).t ∧ p ∈ l
  inc : ∀ (i : Nat) p q, L[i]? = some p → L[i + 1]? = some q → p.t < q.t
  first : L[0]? = some (pt l 0)

theorem pt_mem {l : List Point} {i : Nat} (h : i < l.length) : pt l i ∈ l := List.mem_of_getElem? (pt_some h)

theorem thin_i {l : List Point} (h : StV l) (st : Int) : ∀ {k : Nat}, k < l.length → ThI l k (thinN l st k)
  | 0, hk => ⟨by simp [thinN], by simp [thinN], fun p hp => by
      have : p = pt l 0 := by simpa [thinN] using hp
      subst this
      exact ⟨pt_v h hk, Int.le_refl _, pt_mem hk⟩, fun i p q h1 h2 => by simp [thinN] at h2, rfl⟩
  | k + 1, hk => by
    have ih := thin_i h st (k := k) (by omega)
    have up := h.inc k _ _ (pt_some (l := l) (k := k) (by omega)) (pt_some hk)
    have i1 := ih.n1
    have i2 := ih.n2
    unfold thinN
    cases decide (k + 1 = l.length - 1) || decide (16 * st ≤ lenP (pt (thinN l st k) ((thinN l st k).length - 1)) (pt l (k + 1))) with
    | true =>
      refine ⟨by simp, by simp; omega, fun p hp => ?_, inc_app ih.inc fun q hq => by have := (ih.pts q hq).2.1; omega, ?_⟩
      · rcases List.mem_append.1 hp with hp | hp
        · have := ih.pts p hp
          exact ⟨this.1, by omega, this.2.2⟩
        · simp only [List.mem_singleton] at hp
          subst hp
          exact ⟨pt_v h hk, Int.le_refl _, pt_mem hk⟩
      · show (thinN l st k ++ [pt l (k + 1)])[0]? = _
        rw [List.getElem?_append_left (by omega)]
        exact ih.first
    | false =>
      refine ⟨i1, by show (thinN l st k).length ≤ _; omega, fun p hp => ?_, ih.inc, ih.first⟩
      have := ih.pts p hp
      exact ⟨this.1, by omega, this.2.2⟩

theorem thin_last {l : List Point} (h : StV l) (st : Int) : (thinN l st (l.length - 1))[(thinN l st (l.length - 1)).length - 1]? = some (pt l (l.length - 1)) := by
  have n1 := h.n1
  obtain ⟨m, hm⟩ : ∃ m, l.length - 1 = m := ⟨_, rfl⟩
  rw [hm]
  cases m with
  | zero => rfl
  | succ m =>
    unfold thinN
    have e : decide (m + 1 = l.length - 1) = true := decide_eq_true (by omega)
    rw [e, Bool.true_or, cond_true, List.length_append, List.length_cons, List.length_nil, Nat.add_sub_cancel, List.getElem?_append_right (Nat.le_refl _), Nat.sub_self]
    rfl

theorem thin_v {l : List Point} (h : StV l) (st : Int) : StV (thinN l st (l.length - 1)) := by
  have n1 := h.n1
  have n2 := h.n2
  have i := thin_i h st (k := l.length - 1) (by omega)
  have i2 := i.n2
  exact ⟨fun p hp => (i.pts p hp).1, i.inc, i.n1, by omega⟩

theorem last_get {L : List Point} (h : 1 ≤ L.length) (hl : L.length ≤ 100) : getI L (wr (((L.length : Nat) : Int) - 1)) = some (pt L (L.length - 1)) := by
  have w : wr (((L.length : Nat) : Int) - 1) = ((L.length - 1 : Nat) : Int) := by rw [wr_id (by omega) (by omega)]; omega
  rw [w]
  exact get_pt (by omega)

def thinR (l : List Point) (st : Int) : Sl Point × Int := bif vS l then (bif within st 0 1000 then (some (thinN l st (l.length - 1)), 0) else (none, 2)) else (none, 1)

theorem implThin_ok (s : Stroke) (hs : StB s) (st : Int) : t_impl_ThinStroke s st = some (⟨(thinR (s.points.getD []) st).1⟩, (thinR (s.points.getD []) st).2) := by
  unfold t_impl_ThinStroke thinR
  rw [validStroke_vS s hs.le]
  cases hv : vS (s.points.getD []) with
  | false => rfl
  | true =>
    cases hw : within st 0 1000 with
    | false => rfl
    | true =>
      have h := vS_iff.1 hv
      have n1 := h.n1
      have n2 := h.n2
      simp only [within, Bool.and_eq_true, decide_eq_true_eq] at hw
      obtain ⟨l, hL⟩ : ∃ l, s.points.getD [] = l := ⟨_, rfl⟩
      have fo := (firstOf_ok h).2
      rw [hL] at h n1 n2 fo ⊢
      have w16 : wr (st * 16) = 16 * st := by rw [wr_id (by omega) (by omega)]; omega
      have wn : wr (((l.length : Nat) : Int) - 1) = ((l.length - 1 : Nat) : Int) := by rw [wr_id (by omega) (by omega)]; omega
      have first : loopT (s0_impl_ThinStroke s st) (none, 0) = loopT (s0_impl_ThinStroke s st) (some (thinN l st 0), ((0 + 1 : Nat) : Int)) := by
        apply loopT_next
        have c : (0 : Int) < ((l.length : Nat) : Int) := by omega
        have w : wr ((0 : Int) + 1) = ((0 + 1 : Nat) : Int) := by decide
        have a0 : appO (none : Sl Point) [pt l 0] = some (some [pt l 0]) := by
          have := appO_one (none : Sl Point) (pt l 0) (by simp)
          simpa using this
        unfold s0_impl_ThinStroke
        simp only [hL, c, decide_true, cond_true, fo, obind_sm, a0, w]
        rfl
      have lp := loopT_at (step := s0_impl_ThinStroke s st) (l.length - 1) (fun k => (some (thinN l st k), ((k + 1 : Nat) : Int))) (some (thinN l st (l.length - 1)))
        (fun k hk => by
          have i := thin_i h st (k := k) (by omega)
          have i1 := i.n1
          have i2 := i.n2
          have c : ((k + 1 : Nat) : Int) < ((l.length : Nat) : Int) := by omega
          have z : decide (((k + 1 : Nat) : Int) = 0) = false := decide_eq_false (by omega)
          have ws : wr (((k + 1 : Nat) : Int) + 1) = ((k + 1 + 1 : Nat) : Int) := by rw [wr_id (by omega) (by omega)]; omega
          have lo : t_impl_lastOf ⟨some (thinN l st k)⟩ = some (pt (thinN l st k) ((thinN l st k).length - 1)) := by
            unfold t_impl_lastOf
            simp only [Option.getD_some, last_get i1 (by omega), obind_sm]
          have le := (lengthOf_ok (i.pts _ (pt_mem (l := thinN l st k) (i := (thinN l st k).length - 1) (by omega))).1 (pt_v h (i := k + 1) (by omega))).1
          have a0 := appO_one (some (thinN l st k)) (pt l (k + 1)) (by simp only [Option.getD_some]; omega)
          have d1 : decide (((k + 1 : Nat) : Int) = ((l.length - 1 : Nat) : Int)) = decide (k + 1 = l.length - 1) := decide_eq_decide.2 (by omega)
          have en : thinN l st (k + 1) = bif decide (k + 1 = l.length - 1) || decide (16 * st ≤ lenP (pt (thinN l st k) ((thinN l st k).length - 1)) (pt l (k + 1))) then thinN l st k ++ [pt l (k + 1)] else thinN l st k := rfl
          unfold s0_impl_ThinStroke
          simp only [hL, c, decide_true, cond_true, get_pt (l := l) (i := k + 1) (by omega), obind_sm, z, cond_false, wn, d1, lo, le, w16, a0, appS_cons, Option.getD_some, ws, en]
          cases decide (k + 1 = l.length - 1) <;> cases decide (16 * st ≤ lenP (pt (thinN l st k) ((thinN l st k).length - 1)) (pt l (k + 1))) <;> rfl)
        (by
          have c : ¬ ((l.length - 1 + 1 : Nat) : Int) < ((l.length : Nat) : Int) := by omega
          unfold s0_impl_ThinStroke
          simp only [hL, c, decide_false, cond_false])
        0 (Nat.zero_le _)
      simp only [obind_sm, Bool.not_true, cond_false, first, lp, cond_true]

theorem specThin_ok (s : Stroke) (hs : StB s) (st : Int) : t_spec_ThinStroke s st = some (⟨(thinR (s.points.getD []) st).1⟩, (thinR (s.points.getD []) st).2) := by
  unfold t_spec_ThinStroke thinR
  rw [l02Stroke_vS s hs.le]
  cases hv : vS (s.points.getD []) with
  | false => rfl
  | true =>
    cases hw : within st 0 1000 with
    | false => rfl
    | true =>
      have h := vS_iff.1 hv
      have n1 := h.n1
      have n2 := h.n2
      simp only [within, Bool.and_eq_true, decide_eq_true_eq] at hw
      obtain ⟨l, hL⟩ : ∃ l, s.points.getD [] = l := ⟨_, rfl⟩
      have fo := (firstOf_ok h).2
      rw [hL] at h n1 n2 fo ⊢
      have w16 : wr (st * 16) = 16 * st := by rw [wr_id (by omega) (by omega)]; omega
      have wn : wr (((l.length : Nat) : Int) - 1) = ((l.length - 1 : Nat) : Int) := by rw [wr_id (by omega) (by omega)]; omega
      have lp := loopT_at (step := s0_spec_ThinStroke s st) (l.length - 1) (fun k => (some (thinN l st k), ((k + 1 : Nat) : Int))) (some (thinN l st (l.length - 1)))
        (fun k hk => by
          have i := thin_i h st (k := k) (by omega)
          have i1 := i.n1
          have i2 := i.n2
          have c : ((k + 1 : Nat) : Int) < ((l.length : Nat) : Int) := by omega
          have ws : wr (((k + 1 : Nat) : Int) + 1) = ((k + 1 + 1 : Nat) : Int) := by rw [wr_id (by omega) (by omega)]; omega
          have le := (lengthOf_ok (i.pts _ (pt_mem (l := thinN l st k) (i := (thinN l st k).length - 1) (by omega))).1 (pt_v h (i := k + 1) (by omega))).2
          have a0 := appO_one (some (thinN l st k)) (pt l (k + 1)) (by simp only [Option.getD_some]; omega)
          have d1 : decide (((k + 1 : Nat) : Int) = ((l.length - 1 : Nat) : Int)) = decide (k + 1 = l.length - 1) := decide_eq_decide.2 (by omega)
          have en : thinN l st (k + 1) = bif decide (k + 1 = l.length - 1) || decide (16 * st ≤ lenP (pt (thinN l st k) ((thinN l st k).length - 1)) (pt l (k + 1))) then thinN l st k ++ [pt l (k + 1)] else thinN l st k := rfl
          unfold s0_spec_ThinStroke
          simp only [hL, c, decide_true, cond_true, get_pt (l := l) (i := k + 1) (by omega), obind_sm, wn, d1, last_get i1 (show (thinN l st k).length ≤ 100 by omega), le, w16, a0, appS_cons, Option.getD_some, ws, en]
          cases decide (k + 1 = l.length - 1) <;> cases decide (16 * st ≤ lenP (pt (thinN l st k) ((thinN l st k).length - 1)) (pt l (k + 1))) <;> rfl)
        (by
          have c : ¬ ((l.length - 1 + 1 : Nat) : Int) < ((l.length : Nat) : Int) := by omega
          unfold s0_spec_ThinStroke
          simp only [hL, c, decide_false, cond_false])
        0 (Nat.zero_le _)
      have lp' : loopT (s0_spec_ThinStroke s st) (some [pt l 0], 1) = some (some (thinN l st (l.length - 1))) := lp
      simp only [obind_sm, Bool.not_true, cond_false, fo, lp', cond_true]

/-- The smoothed points are those of a stroke, in its box. -/
theorem smP_v {l : List Point} (h : StV l) {i : Nat} (hi : i < l.length) : PtV (smP l i) ∧ (smP l i).t = (pt l i).t ∧ InB (pbox (smP l i)) (bxS l) := by
  have n2 := h.n2
  have b := pt_v h hi
  have ib := bxN_in l (k := l.length) hi
  by_cases c : 0 < i ∧ i + 1 < l.length
  · rw [smP_mid c.1 c.2]
    have a := pt_v h (i := i - 1) (by omega)
    have d := pt_v h (i := i + 1) (by omega)
    have ia := bxN_in l (k := l.length) (i := i - 1) (by omega)
    have id := bxN_in l (k := l.length) (i := i + 1) (by omega)
    obtain ⟨a1, a2, a3, a4, _, _⟩ := a
    obtain ⟨b1, b2, b3, b4, b5, b6⟩ := b
    obtain ⟨d1, d2, d3, d4, _, _⟩ := d
    obtain ⟨x1, x2, x3, x4⟩ := ia
    obtain ⟨y1, y2, y3, y4⟩ := ib
    obtain ⟨z1, z2, z3, z4⟩ := id
    unfold pbox at *
    unfold bxS
    simp only at *
    refine ⟨⟨by simp only; omega, by simp only; omega, by simp only; omega, by simp only; omega, b5, b6⟩, by first | rfl | trivial, ⟨by simp only; omega, by simp only; omega, by simp only; omega, by simp only; omega⟩⟩
  · rw [smP_end c]
    exact ⟨b, rfl, ib⟩

theorem smooth_v {l L : List Point} (h : StV l) (hl : L.length = l.length) (hg : ∀ j, j < l.length → L[j]? = some (smP l j)) : StV L ∧ InB (bxS L) (bxS l) := by
  have n1 := h.n1
  have n2 := h.n2
  have pe : ∀ j, j < l.length → pt L j = smP l j := fun j hj => by
    have e := hg j hj
    rw [pt_some (by omega)] at e
    exact Option.some.inj e
  refine ⟨⟨fun p hp => ?_, fun k p q h1 h2 => ?_, by omega, by omega⟩, bxN_min (l := L) (by omega) (fun i hi => ?_) (Nat.le_refl _)⟩
  · obtain ⟨k, hk⟩ := List.mem_iff_getElem?.1 hp
    have hlt := get_lt hk
    rw [hg k (by omega)] at hk
    cases hk
    exact (smP_v h (by omega)).1
  · have hlt := get_lt h2
    rw [hg k (by omega)] at h1
    rw [hg (k + 1) (by omega)] at h2
    cases h1
    cases h2
    rw [(smP_v h (i := k) (by omega)).2.1, (smP_v h (i := k + 1) (by omega)).2.1]
    exact h.inc k _ _ (pt_some (by omega)) (pt_some (by omega))
  · rw [pe i (by omega)]
    exact (smP_v h (by omega)).2.2

theorem dr_thin (code : Sl UInt8) : ∃ s st, t_spec_DrawThinStroke code = some (s, st) ∧ StB s := by
  have hs : SK ⟨code, 0, 0⟩ 0 := ⟨by simp, by simp⟩
  obtain ⟨s, s1, e1, k1, ss⟩ := dr_l05 hs (by omega)
  obtain ⟨r2, s2, e2, k2, _, _, _⟩ := dr_pick k1 (by omega) (n := 40) (by omega)
  obtain ⟨b3, s3, e3, k3⟩ := dr_one k2 (by omega) (n := 10) (by omega)
  obtain ⟨r4, s4, e4, k4, _⟩ := dr_among k3 (by omega) (l := [-1, 0, 1000, 1001]) (by simp) (by simp)
  unfold t_spec_DrawThinStroke
  simp only [e1, e2, e3, e4, obind_sm]
  cases b3 with
  | true => exact ⟨_, _, rfl, ss⟩
  | false => exact ⟨_, _, rfl, ss⟩

theorem true_FnThinned (code : Sl UInt8) : t_laws_FnThinned code = some true := by
  unfold t_laws_FnThinned t_laws_f6big
  by_cases c0 : 4096 < (((code.getD []).length : Nat) : Int)
  · simp only [c0, decide_true, obind_sm, cond_true]
  obtain ⟨s, st, D1, ss⟩ := dr_thin code
  have T1 := implThin_ok s ss st
  have T2 := specThin_ok s ss st
  rcases implSmooth_ok s ss with ⟨hv, E1⟩ | ⟨h, L, E1, l1, g1⟩
  · rcases specSmooth_ok s ss with ⟨_, E2⟩ | ⟨h, _⟩
    · have F := f6stroke_ok (a := ⟨none⟩) (b := ⟨none⟩) rfl (by simp)
      have tr : thinR (s.points.getD []) st = (none, 1) := by unfold thinR; rw [hv]; rfl
      have z : ¬ (1 : Int) = 0 := by omega
      rw [tr] at T1 T2
      simp only [c0, decide_false, obind_sm, cond_false, D1, T1, T2, E1, E2, F, decide_true, Bool.not_true, z, Bool.not_false, cond_true]
    · rw [vS_iff.2 h] at hv
      cases hv
  · rcases specSmooth_ok s ss with ⟨hv, _⟩ | ⟨_, L2, E2, l2, g2⟩
    · rw [vS_iff.2 h] at hv
      cases hv
    have n1 := h.n1
    have n2 := h.n2
    have LL : L = L2 := by
      apply List.ext_getElem?
      intro i
      by_cases c : i < (s.points.getD []).length
      · rw [g1 i c, g2 i c]
      · rw [List.getElem?_eq_none (by omega), List.getElem?_eq_none (by omega)]
    subst LL
    have F1 := f6stroke_ok (a := ⟨(thinR (s.points.getD []) st).1⟩) (b := ⟨(thinR (s.points.getD []) st).1⟩) rfl (by
      unfold thinR
      cases vS (s.points.getD []) with
      | false => simp
      | true =>
        cases within st 0 1000 with
        | false => simp
        | true =>
          have := (thin_v h st).n2
          simp only [cond_true, Option.getD_some]
          omega)
    have F2 := f6stroke_ok (a := ⟨some L⟩) (b := ⟨some L⟩) rfl (by simp only [Option.getD_some]; omega)
    obtain ⟨uv, ub⟩ := smooth_v h l1 g1
    have uv' : StV ((⟨some L⟩ : Stroke).points.getD []) := uv
    have B1 := boxSt_ok s h
    have B2 := boxSt_ok ⟨some L⟩ uv'
    simp only [Option.getD_some] at B2
    have J := joinB_ok (bxS_valid h) (bxS_valid uv)
    rw [join_in ub] at J
    have V := validStroke_vS ⟨some L⟩ (by simp only [Option.getD_some]; omega)
    simp only [Option.getD_some, vS_iff.2 uv] at V
    have u0 : getI L 0 = some (pt (s.points.getD []) 0) := by
      have e := g1 0 (by omega)
      rw [smP_end (by omega)] at e
      exact getI_nat e
    have wn : wr ((((s.points.getD []).length : Nat) : Int) - 1) = (((s.points.getD []).length - 1 : Nat) : Int) := by rw [wr_id (by omega) (by omega)]; omega
    have un : getI L (((s.points.getD []).length - 1 : Nat) : Int) = some (pt (s.points.getD []) ((s.points.getD []).length - 1)) := by
      have e := g1 ((s.points.getD []).length - 1) (by omega)
      rw [smP_end (by omega)] at e
      exact getI_nat e
    have so := (firstOf_ok h).2
    have sn := get_pt (l := s.points.getD []) (i := (s.points.getD []).length - 1) (by omega)
    have head : ∀ (X : Option Bool), X = some true → (obind (t_impl_BoxOfStroke s) fun c68 =>
        obind (t_impl_BoxOfStroke (⟨some L⟩ : Stroke)) fun c75 =>
        obind (t_impl_JoinBoxes c68.1 c75.1) fun c82 =>
        obind (bif !decide (c68.2 = 0) then some false else (some (!decide (c75.2 = 0)))) fun c90 =>
        obind (bif (bif !decide (c68.2 = 0) then true else c90) then some false else (some (!decide (c82.2 = 0)))) fun c93 =>
        obind (bif (bif (bif !decide (c68.2 = 0) then true else c90) then true else c93) then some false else (some (!decide (c82.1 = c68.1)))) fun c96 =>
        obind (bif (bif (bif (bif !decide (c68.2 = 0) then true else c90) then true else c93) then true else c96) then some false else (obind (t_impl_ValidStroke (⟨some L⟩ : Stroke)) fun c100 => some (!c100))) fun c101 =>
        obind (bif (bif (bif (bif (bif !decide (c68.2 = 0) then true else c90) then true else c93) then true else c96) then true else c101) then some false else (some (!decide (((((some L : Sl Point).getD []).length : Nat) : Int) = (((s.points.getD []).length : Nat) : Int))))) fun c105 =>
        obind (bif (bif (bif (bif (bif (bif !decide (c68.2 = 0) then true else c90) then true else c93) then true else c96) then true else c101) then true else c105) then some false else (obind (getI ((some L : Sl Point).getD []) 0) fun a111 => obind (getI (s.points.getD []) 0) fun a115 => some (!decide (a111 = a115)))) fun c119 =>
        obind (bif (bif (bif (bif (bif (bif (bif !decide (c68.2 = 0) then true else c90) then true else c93) then true else c96) then true else c101) then true else c105) then true else c119) then some false else (obind (getI ((some L : Sl Point).getD []) (wr ((((s.points.getD []).length : Nat) : Int) - 1))) fun a129 => obind (getI (s.points.getD []) (wr ((((s.points.getD []).length : Nat) : Int) - 1))) fun a133 => some (!decide (a129 = a133)))) fun c137 =>
        bif (bif (bif (bif (bif (bif (bif (bif !decide (c68.2 = 0) then true else c90) then true else c93) then true else c96) then true else c101) then true else c105) then true else c119) then true else c137) then
          some false
        else X) = some true := fun X hX => by
      have dl : decide (((L.length : Nat) : Int) = (((s.points.getD []).length : Nat) : Int)) = true := decide_eq_true (by omega)
      simp only [B1, B2, J, V, obind_sm, Option.getD_some, decide_true, Bool.not_true, cond_false, dl, u0, so, wn, un, sn, hX]
    have hv := vS_iff.2 h
    cases hw : within st 0 1000 with
    | false =>
      have tr : thinR (s.points.getD []) st = (none, 2) := by unfold thinR; rw [hv, hw]; rfl
      have z : ¬ (2 : Int) = 0 := by omega
      rw [tr] at T1 T2 F1
      simp only [c0, decide_false, obind_sm, cond_false, D1, T1, T2, E1, E2, F1, F2, decide_true, Bool.not_true]
      refine head _ ?_
      simp only [z, decide_false, Bool.not_false, cond_true]
    | true =>
      have tr : thinR (s.points.getD []) st = (some (thinN (s.points.getD []) st ((s.points.getD []).length - 1)), 0) := by unfold thinR; rw [hv, hw]; rfl
      obtain ⟨t, ht⟩ : ∃ t, thinN (s.points.getD []) st ((s.points.getD []).length - 1) = t := ⟨_, rfl⟩
      have tv := thin_v h st
      have ti := thin_i h st (k := (s.points.getD []).length - 1) (by omega)
      have tl := thin_last h st
      rw [ht] at tr tv ti tl
      have t1 := tv.n1
      have t2 := tv.n2
      have tb : StB ⟨some t⟩ := tv.b
      have T3 := implThin_ok ⟨some t⟩ tb st
      have tr3 : thinR t st = (some (thinN t st (t.length - 1)), 0) := by unfold thinR; rw [vS_iff.2 tv, hw]; rfl
      have t3 := (thin_i tv st (k := t.length - 1) (by omega)).n2
      simp only [Option.getD_some] at T3
      rw [tr3] at T3
      have TV := validStroke_vS ⟨some t⟩ tb.le
      simp only [Option.getD_some, vS_iff.2 tv] at TV
      have q0 : getI t 0 = some (pt (s.points.getD []) 0) := getI_nat (m := 0) ti.first
      have wt : wr (((t.length : Nat) : Int) - 1) = ((t.length - 1 : Nat) : Int) := by rw [wr_id (by omega) (by omega)]; omega
      have qn := getI_nat tl
      have d0 : decide (0 < ((t.length : Nat) : Int)) = true := decide_eq_true (by omega)
      have dm : decide ((((thinN t st (t.length - 1)).length : Nat) : Int) ≤ ((t.length : Nat) : Int)) = true := decide_eq_true (by omega)
      rw [tr] at T1 T2 F1
      simp only [c0, decide_false, obind_sm, cond_false, D1, T1, T2, E1, E2, F1, F2, decide_true, Bool.not_true]
      refine head _ ?_
      simp only [cond_false, T3, TV, obind_sm, Option.getD_some, d0, cond_true, q0, so, decide_true, wt, qn, wn, sn, dm]

theorem ok_laws_FnThinned : PureOK Try.prog n_laws_FnThinned (G1 (fun a : Sl UInt8 => Wt.big a) fun _ => bv true) := lawC1 tt_laws_FnThinned fun a _ => true_FnThinned a

theorem law_FnThinned (a : Sl UInt8) (ha : Row.fine a) : G1 (fun a : Sl UInt8 => Wt.big a) (fun _ => bv true) [enc a] = some (bv true) := G1_enc _ _ a (by simp [Wt.fb a ha])

theorem isC_5 {cs : List AV} (h : IsC Try.prog 5 cs) : ∃ x : UInt8, cs = Row.cells x ∧ Row.fine x := by
  obtain ⟨n, rfl, hn⟩ := IsC.intE Try.underlying5 h
  exact byte_of hn
theorem isC_22 {cs : List AV} (h : IsC Try.prog 22 cs) : ∃ x : (Sl UInt8), cs = Row.cells x ∧ Row.fine x := by
  rcases IsC.sliceE Try.underlying22 h with rfl | ⟨rows, rfl, h1, h2⟩
  · exact ⟨none, rfl, Sl.fineNil⟩
  · exact Sl.isC (by kernel_rfl) h1 fun row hr => isC_5 (h2 row hr)
theorem own : ownKnob Try.prog.godebug = none := by kernel_rfl
theorem laidOut : laidOutB Try.prog = true := by kernel_rfl

set_option maxRecDepth 100000 in
theorem holds : Rows.FnThinnedSaid :=
  OpenClaim.holds_of_wide 4 Try.f4 rfl rfl rfl rfl rfl rfl rfl ⟨rfl, rfl, rfl, rfl, rfl⟩ rfl rfl rfl rfl rfl (by kernel_rfl) Try.func4 (by kernel_rfl)
    (of_decide_eq_true (by kernel_rfl)) (by unfold Func.isWrapper; rw [if_neg (by decide +kernel)]; exact ⟨rfl, rfl⟩)
    (fun os started H enc _ => law_lifted (C := Try.checked) (s := Rows.fnThinnedSpec) own started (by kernel_rfl) Try.func4
      (ChangeSpec.witness6 (enc := enc) (C := Try.checked) false ⟨#[], #[.slice none 0 0], []⟩ 8 (by kernel_rfl) (by kernel_rfl) (by kernel_rfl) (by kernel_rfl))
      laidOut rfl (tb := 4) rfl Try.underlying4 (ts := [22, 5]) (by kernel_rfl)
      (fun ds h => by match ds, h with | [d0], _ => rfl)
      hb_laws_FnThinned ok_laws_FnThinned (by
    intro l h
    obtain ⟨a0, l0, rfl, g0, k0⟩ := h
    cases k0
    obtain ⟨b0, e0, w0⟩ := isC_22 (isV_one (by kernel_rfl) g0)
    obtain rfl := one_enc e0
    exact law_FnThinned b0 w0))
#print axioms holds
end Go.Proofs.Ytdikndbpcceogaa
