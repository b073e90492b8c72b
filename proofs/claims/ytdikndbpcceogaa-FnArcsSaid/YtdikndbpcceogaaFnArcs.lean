/-
  The law FnArcs holds, for all arguments: it returns true, and its arguments read behind the call as before. No condition.
-/
import Derived.Test.YtdikndbpcceogaaFnArcsPartB
import Derived.Test.YtdikndbpcceogaaRows
namespace Go.Proofs.Ytdikndbpcceogaa
open Go Go.Eng Go.Eng.Cod
set_option maxRecDepth 100000
set_option linter.unusedVariables false
set_option linter.unusedSimpArgs false

theorem specSpots_ok (s : Stroke) (hs : StB s) : ∃ q n, t_spec_SpotsOf s = some (q, n) ∧ ((vS (s.points.getD []) = false ∧ n = 1 ∧ q.getD [] = []) ∨ (vS (s.points.getD []) = true ∧ n = 0 ∧ q.getD [] = spots (s.points.getD []))) := by
  unfold t_spec_SpotsOf
  rw [l02Stroke_vS s hs.le]
  cases hv : vS (s.points.getD []) with
  | false => exact ⟨_, _, rfl, .inl ⟨rfl, rfl, rfl⟩⟩
  | true =>
    have h := vS_iff.1 hv
    have n2 := h.n2
    obtain ⟨q, e, hq⟩ := buildLoop (spots (s.points.getD [])) (n := (s.points.getD []).length) (by simp [spots]) (by omega) 0 (some []) rfl (s0_spec_SpotsOf s) (fun w k a ha => by
      have hk : k < (s.points.getD []).length := by have := get_lt ha; simpa [spots] using this
      have c : (k : Int) < (((s.points.getD []).length : Nat) : Int) := by omega
      have ea : a = ⟨(pt (s.points.getD []) k).x, (pt (s.points.getD []) k).y⟩ := by
        unfold spots at ha
        rw [List.getElem?_map, pt_some hk] at ha
        exact (Option.some.inj ha).symm
      subst ea
      unfold s0_spec_SpotsOf t_spec_l06Spot
      simp only [Nat.add_zero, c, decide_true, cond_true, get_pt hk, obind_sm]) (by omega) (fun w => by
      unfold s0_spec_SpotsOf
      simp only [Nat.add_zero, Int.lt_irrefl, decide_false, cond_false])
    have e' : loopT (s0_spec_SpotsOf s) (some [], 0) = some q := e
    refine ⟨q, 0, ?_, .inr ⟨rfl, rfl, hq⟩⟩
    simp only [obind_sm, Bool.not_true, cond_false, e']

def speedF (l : List Point) (k : Nat) : Int := wr (Int.tdiv (1000 * lenF l k) ((pt l (k + 1)).t - (pt l k).t))

def speeds (l : List Point) : List Int := (List.range (l.length - 1)).map (speedF l)

theorem speed_ok {l : List Point} (h : StV l) {k : Nat} (hk : k + 1 < l.length) : wr (((k + 1 : Nat) : Int) - 1) = ((k : Nat) : Int) ∧ wr (1000 * lenP (pt l k) (pt l (k + 1))) = 1000 * lenF l k ∧ wr ((pt l (k + 1)).t - (pt l k).t) = (pt l (k + 1)).t - (pt l k).t ∧ quoI (1000 * lenF l k) ((pt l (k + 1)).t - (pt l k).t) = some (speedF l k) := by
  have n2 := h.n2
  have b := lenF_le h hk
  have i := h.inc k _ _ (pt_some (l := l) (k := k) (by omega)) (pt_some hk)
  have p0 := pt_v h (i := k) (by omega)
  have p1 := pt_v h hk
  have a1 := p0.t0
  have a2 := p1.t1
  have e : lenP (pt l k) (pt l (k + 1)) = lenF l k := rfl
  refine ⟨by rw [wr_id (by omega) (by omega)]; omega, by rw [e]; exact wr_id (by omega) (by omega), wr_id (by omega) (by omega), ?_⟩
  have z : ¬ (pt l (k + 1)).t - (pt l k).t = 0 := by omega
  unfold quoI speedF
  simp only [z, decide_false, cond_false]

theorem speeds_get {l : List Point} {k : Nat} {a : Int} (h : (speeds l)[k]? = some a) : k + 1 < l.length ∧ a = speedF l k := by
  have hk := get_lt h
  unfold speeds at hk h
  rw [List.length_map, List.length_range] at hk
  rw [List.getElem?_map, List.getElem?_range hk] at h
  exact ⟨by omega, (Option.some.inj h).symm⟩

theorem implSpeeds_ok (s : Stroke) (hs : StB s) : ∃ q n, t_impl_SpeedsOf s = some (q, n) ∧ ((vS (s.points.getD []) = false ∧ n = 1 ∧ q.getD [] = []) ∨ (vS (s.points.getD []) = true ∧ n = 0 ∧ q.getD [] = speeds (s.points.getD []))) := by
  unfold t_impl_SpeedsOf
  rw [validStroke_vS s hs.le]
  cases hv : vS (s.points.getD []) with
  | false => exact ⟨_, _, rfl, .inl ⟨rfl, rfl, rfl⟩⟩
  | true =>
    have h := vS_iff.1 hv
    have n1 := h.n1
    have n2 := h.n2
    obtain ⟨q, e, hq⟩ := buildLoop (speeds (s.points.getD [])) (n := (s.points.getD []).length - 1) (by simp [speeds]) (by omega) 1 none rfl (s0_impl_SpeedsOf s) (fun w k a ha => by
      obtain ⟨hk, rfl⟩ := speeds_get ha
      have c : ((k + 1 : Nat) : Int) < (((s.points.getD []).length : Nat) : Int) := by omega
      obtain ⟨w1, w2, w3, w4⟩ := speed_ok h hk
      have le := (lengthOf_ok (pt_v h (i := k) (by omega)) (pt_v h hk)).1
      unfold s0_impl_SpeedsOf
      simp only [c, decide_true, cond_true, w1, get_pt (l := s.points.getD []) (i := k) (by omega), get_pt hk, obind_sm, le, w2, w3, w4]) (by omega) (fun w => by
      have c : ¬ (((s.points.getD []).length - 1 + 1 : Nat) : Int) < (((s.points.getD []).length : Nat) : Int) := by omega
      unfold s0_impl_SpeedsOf
      simp only [c, decide_false, cond_false])
    have e' : loopT (s0_impl_SpeedsOf s) (none, 1) = some q := e
    refine ⟨q, 0, ?_, .inr ⟨rfl, rfl, hq⟩⟩
    simp only [obind_sm, Bool.not_true, cond_false, e']

theorem specSpeeds_ok (s : Stroke) (hs : StB s) : ∃ q n, t_spec_SpeedsOf s = some (q, n) ∧ ((vS (s.points.getD []) = false ∧ n = 1 ∧ q.getD [] = []) ∨ (vS (s.points.getD []) = true ∧ n = 0 ∧ q.getD [] = speeds (s.points.getD []))) := by
  unfold t_spec_SpeedsOf
  rw [l02Stroke_vS s hs.le]
  cases hv : vS (s.points.getD []) with
  | false => exact ⟨_, _, rfl, .inl ⟨rfl, rfl, rfl⟩⟩
  | true =>
    have h := vS_iff.1 hv
    have n1 := h.n1
    have n2 := h.n2
    obtain ⟨q, e, hq⟩ := buildLoop (speeds (s.points.getD [])) (n := (s.points.getD []).length - 1) (by simp [speeds]) (by omega) 1 (some []) rfl (s0_spec_SpeedsOf s) (fun w k a ha => by
      obtain ⟨hk, rfl⟩ := speeds_get ha
      have c : ((k + 1 : Nat) : Int) < (((s.points.getD []).length : Nat) : Int) := by omega
      obtain ⟨w1, w2, w3, w4⟩ := speed_ok h hk
      have le := (lengthOf_ok (pt_v h (i := k) (by omega)) (pt_v h hk)).2
      unfold s0_spec_SpeedsOf
      simp only [c, decide_true, cond_true, w1, get_pt (l := s.points.getD []) (i := k) (by omega), get_pt hk, obind_sm, le, w2, w3, w4]) (by omega) (fun w => by
      have c : ¬ (((s.points.getD []).length - 1 + 1 : Nat) : Int) < (((s.points.getD []).length : Nat) : Int) := by omega
      unfold s0_spec_SpeedsOf
      simp only [c, decide_false, cond_false])
    have e' : loopT (s0_spec_SpeedsOf s) (some [], 1) = some q := e
    refine ⟨q, 0, ?_, .inr ⟨rfl, rfl, hq⟩⟩
    simp only [obind_sm, Bool.not_true, cond_false, e']

def pauseF (l : List Point) (k : Nat) : Int := (pt l (k + 1)).t - (pt l k).t

/-- The first of the longest pauses. -/
def lpN (l : List Point) : Nat → Nat
  | 0 => 0
  | k + 1 => bif decide (pauseF l (lpN l k) < pauseF l (k + 1)) then k + 1 else lpN l k

theorem lpN_le (l : List Point) : ∀ k, lpN l k ≤ k
  | 0 => Nat.le_refl _
  | k + 1 => by
    have h := lpN_le l k
    unfold lpN
    cases decide (pauseF l (lpN l k) < pauseF l (k + 1)) with
    | true => exact Nat.le_refl _
    | false => show lpN l k ≤ _; omega

theorem lpN_succ (l : List Point) (k : Nat) : lpN l (k + 1) = bif decide (pauseF l (lpN l k) < pauseF l (k + 1)) then k + 1 else lpN l k := rfl

theorem pause_ok {l : List Point} (h : StV l) {k : Nat} (hk : k + 1 < l.length) : wr ((pt l (k + 1)).t - (pt l k).t) = pauseF l k ∧ 0 < pauseF l k := by
  have i := h.inc k _ _ (pt_some (l := l) (k := k) (by omega)) (pt_some hk)
  have a1 := (pt_v h (i := k) (by omega)).t0
  have a2 := (pt_v h hk).t1
  unfold pauseF
  exact ⟨wr_id (by omega) (by omega), by omega⟩

def pauseR (l : List Point) : Int × Int := bif vS l then (bif decide (l.length = 1) then (0, 6) else (((lpN l (l.length - 2) : Nat) : Int), 0)) else (0, 1)

theorem pauseR_ok (s : Stroke) (hs : StB s) : t_impl_LongestPause s = some (pauseR (s.points.getD [])) ∧ t_spec_LongestPause s = some (pauseR (s.points.getD [])) := by
  unfold t_impl_LongestPause t_spec_LongestPause pauseR
  rw [validStroke_vS s hs.le, l02Stroke_vS s hs.le]
  cases hv : vS (s.points.getD []) with
  | false => exact ⟨rfl, rfl⟩
  | true =>
    have h := vS_iff.1 hv
    have n1 := h.n1
    have n2 := h.n2
    obtain ⟨l, hL⟩ : ∃ l, s.points.getD [] = l := ⟨_, rfl⟩
    rw [hL] at h n1 n2 ⊢
    by_cases c1 : l.length = 1
    · have d1 : decide (((l.length : Nat) : Int) = 1) = true := decide_eq_true (by omega)
      have d2 : decide (((l.length : Nat) : Int) < 2) = true := decide_eq_true (by omega)
      have d3 : decide (l.length = 1) = true := decide_eq_true c1
      rw [d1, d2, d3]
      exact ⟨rfl, rfl⟩
    · have d1 : decide (((l.length : Nat) : Int) = 1) = false := decide_eq_false (by omega)
      have d2 : decide (((l.length : Nat) : Int) < 2) = false := decide_eq_false (by omega)
      have d3 : decide (l.length = 1) = false := decide_eq_false c1
      have first : loopT (s0_impl_LongestPause s) (0, -1, 0) = loopT (s0_impl_LongestPause s) (((lpN l 0 : Nat) : Int), pauseF l (lpN l 0), ((0 + 1 : Nat) : Int)) := by
        apply loopT_next
        have w : wr ((0 : Int) + 1) = ((0 + 1 : Nat) : Int) := by decide
        have c : ((0 + 1 : Nat) : Int) < ((l.length : Nat) : Int) := by omega
        obtain ⟨p1, p2⟩ := pause_ok h (k := 0) (by omega)
        have g0 : getI l 0 = some (pt l 0) := get_pt (l := l) (i := 0) (by omega)
        have dd : decide ((-1 : Int) < pauseF l 0) = true := decide_eq_true (by omega)
        unfold s0_impl_LongestPause
        simp only [hL, w, c, decide_true, cond_true, get_pt (l := l) (i := 0 + 1) (by omega), g0, obind_sm, p1, dd]
        rfl
      have l1 := loopT_at (step := s0_impl_LongestPause s) (l.length - 2) (fun k => (((lpN l k : Nat) : Int), pauseF l (lpN l k), ((k + 1 : Nat) : Int))) ((lpN l (l.length - 2) : Nat) : Int)
        (fun k hk => by
          have ws : wr (((k + 1 : Nat) : Int) + 1) = ((k + 1 + 1 : Nat) : Int) := by rw [wr_id (by omega) (by omega)]; omega
          have c : ((k + 1 + 1 : Nat) : Int) < ((l.length : Nat) : Int) := by omega
          obtain ⟨p1, p2⟩ := pause_ok h (k := k + 1) (by omega)
          unfold s0_impl_LongestPause
          simp only [hL, ws, c, decide_true, cond_true, get_pt (l := l) (i := k + 1 + 1) (by omega), get_pt (l := l) (i := k + 1) (by omega), obind_sm, p1, lpN_succ]
          cases decide (pauseF l (lpN l k) < pauseF l (k + 1)) <;> rfl)
        (by
          have ws : wr (((l.length - 2 + 1 : Nat) : Int) + 1) = ((l.length - 2 + 1 + 1 : Nat) : Int) := by rw [wr_id (by omega) (by omega)]; omega
          have c : ¬ ((l.length - 2 + 1 + 1 : Nat) : Int) < ((l.length : Nat) : Int) := by omega
          unfold s0_impl_LongestPause
          simp only [hL, ws, c, decide_false, cond_false])
        0 (Nat.zero_le _)
      have l2 := loopT_at (step := s0_spec_LongestPause s) (l.length - 2) (fun k => (((lpN l k + 1 : Nat) : Int), ((k + 2 : Nat) : Int))) ((lpN l (l.length - 2) + 1 : Nat) : Int)
        (fun k hk => by
          have hb := lpN_le l k
          have w1 : wr (((k + 2 : Nat) : Int) - 1) = ((k + 1 : Nat) : Int) := by rw [wr_id (by omega) (by omega)]; omega
          have w2 : wr (((lpN l k + 1 : Nat) : Int) - 1) = ((lpN l k : Nat) : Int) := by rw [wr_id (by omega) (by omega)]; omega
          have w3 : wr (((k + 2 : Nat) : Int) + 1) = ((k + 1 + 2 : Nat) : Int) := by rw [wr_id (by omega) (by omega)]; omega
          have c : ((k + 2 : Nat) : Int) < ((l.length : Nat) : Int) := by omega
          obtain ⟨p1, _⟩ := pause_ok h (k := k + 1) (by omega)
          obtain ⟨p2, _⟩ := pause_ok h (k := lpN l k) (by omega)
          unfold s0_spec_LongestPause
          simp only [hL, c, decide_true, cond_true, w1, w2, get_pt (l := l) (i := k + 2) (by omega), get_pt (l := l) (i := k + 1) (by omega), get_pt (l := l) (i := lpN l k + 1) (by omega), get_pt (l := l) (i := lpN l k) (by omega), obind_sm, p1, p2, w3, lpN_succ]
          cases decide (pauseF l (lpN l k) < pauseF l (k + 1)) <;> rfl)
        (by
          have c : ¬ ((l.length - 2 + 2 : Nat) : Int) < ((l.length : Nat) : Int) := by omega
          unfold s0_spec_LongestPause
          simp only [hL, c, decide_false, cond_false])
        0 (Nat.zero_le _)
      have l2' : loopT (s0_spec_LongestPause s) (1, 2) = some ((lpN l (l.length - 2) + 1 : Nat) : Int) := l2
      have hb := lpN_le l (l.length - 2)
      have w9 : wr (((lpN l (l.length - 2) + 1 : Nat) : Int) - 1) = ((lpN l (l.length - 2) : Nat) : Int) := by rw [wr_id (by omega) (by omega)]; omega
      rw [d1, d2, d3]
      simp only [obind_sm, Bool.not_true, cond_false, cond_true, first, l1, l2', w9]
      constructor <;> first | rfl | trivial

theorem ext_d {A : Type} {a b : List A} (hl : a.length = b.length) (h : ∀ (k : Nat) x y, a[k]? = some x → b[k]? = some y → x = y) : a = b := by
  apply List.ext_getElem?
  intro k
  by_cases c : k < a.length
  · rw [List.getElem?_eq_getElem c, List.getElem?_eq_getElem (show k < b.length by omega)]
    congr 1
    exact h k _ _ (List.getElem?_eq_getElem c) (List.getElem?_eq_getElem (show k < b.length by omega))
  · rw [List.getElem?_eq_none (by omega), List.getElem?_eq_none (by omega)]

def fE (b : List Spot) (k : Nat) (x : Spot) : Option Bool := bif !decide (x = b.getD k ⟨0, 0⟩) then some false else none

def sameL (a b : List Spot) : Bool := decide (a.length = b.length) && (match firstL (fE b) a 0 with | none => true | some r => r)

theorem sameL_refl (a : List Spot) : sameL a a = true := by
  have e : firstL (fE a) a 0 = none := firstL_none fun i x hx => by
    unfold fE
    rw [Nat.zero_add, List.getD_eq_getElem?_getD, hx]
    simp
  unfold sameL
  rw [e]
  simp

theorem sameS_ok (a b : Sl Spot) (hl : (a.getD []).length ≤ 1000000) : t_impl_SameSpots a b = some (sameL (a.getD []) (b.getD [])) ∧ t_spec_SameSpots a b = some (sameL (a.getD []) (b.getD [])) := by
  unfold t_impl_SameSpots t_spec_SameSpots t_slices_Equal_impl_Spot_impl_Spot t_spec_l06Same sameL
  have dl : decide ((((a.getD []).length : Nat) : Int) = (((b.getD []).length : Nat) : Int)) = decide ((a.getD []).length = (b.getD []).length) := decide_eq_decide.2 (by omega)
  rw [dl]
  cases h : decide ((a.getD []).length = (b.getD []).length) with
  | false => exact ⟨rfl, rfl⟩
  | true =>
    have hl2 := of_decide_eq_true h
    have nx : ∀ (k : Nat) x, (a.getD [])[k]? = some x → getI (b.getD []) (k : Int) = some ((b.getD []).getD k ⟨0, 0⟩) := fun k x hx => by
      have hk := get_lt hx
      apply getI_nat
      rw [List.getD_eq_getElem?_getD, List.getElem?_eq_getElem (by omega)]
      rfl
    have l1 := loopT_first (step := s0_slices_Equal_impl_Spot_impl_Spot a b) (a.getD []) (fE (b.getD [])) (.inl ()) .inr
      (fun k x hx => by
        have hk := get_lt hx
        have c : (k : Int) < (((a.getD []).length : Nat) : Int) := by omega
        unfold s0_slices_Equal_impl_Spot_impl_Spot fE
        simp only [c, decide_true, cond_true, getI_nat hx, nx k x hx, obind_sm, wr_succ hk (Nat.le_trans hl (by decide))]
        cases decide (x = (b.getD []).getD k ⟨0, 0⟩) <;> rfl)
      (by
        unfold s0_slices_Equal_impl_Spot_impl_Spot
        simp only [Int.lt_irrefl, decide_false, cond_false])
    have l2 := loopT_first (step := s0_spec_l06Same a b) (a.getD []) (fE (b.getD [])) (.inl ()) .inr
      (fun k x hx => by
        have hk := get_lt hx
        have c : (k : Int) < (((a.getD []).length : Nat) : Int) := by omega
        unfold s0_spec_l06Same fE
        simp only [c, decide_true, cond_true, getI_nat hx, nx k x hx, obind_sm, wr_succ hk (Nat.le_trans hl (by decide))]
        cases decide (x = (b.getD []).getD k ⟨0, 0⟩) <;> rfl)
      (by
        unfold s0_spec_l06Same
        simp only [Int.lt_irrefl, decide_false, cond_false])
    simp only [Bool.not_true, cond_false, l1, l2, Bool.true_and]
    cases firstL (fE (b.getD [])) (a.getD []) 0 with
    | none => simp only [obind_sm]; constructor <;> first | rfl | trivial
    | some r => simp only [obind_sm]; constructor <;> first | rfl | trivial

theorem own_spots (s : Sl Spot) (hl : (s.getD []).length ≤ 1000) : appO (some ([] : List Spot)) (s.getD []) = some (some (s.getD [])) ∧ appS (some ([] : List Spot)) (s.getD []) = some (s.getD []) := by
  refine ⟨?_, rfl⟩
  rw [appO_some (by simp only [Option.getD_some, List.length_nil]; omega)]
  rfl

theorem dr_same (code : Sl UInt8) : ∃ a b, t_spec_DrawSameSpots code = some (a, b) ∧ (a.getD []).length ≤ 1000 := by
  have hs : SK ⟨code, 0, 0⟩ 0 := ⟨by simp, by simp⟩
  obtain ⟨s, s1, e1, k1, ss⟩ := dr_l05 hs (by omega)
  obtain ⟨q, n, e2, hq⟩ := specSpots_ok s ss
  have ql : (q.getD []).length ≤ 100 := by
    rcases hq with ⟨_, _, e⟩ | ⟨_, _, e⟩
    · rw [e]; simp
    · rw [e]
      have := ss.n
      simpa [spots] using this
  obtain ⟨o1, o2⟩ := own_spots q (by omega)
  obtain ⟨b3, s3, e3, k3⟩ := dr_one k1 (by omega) (n := 2) (by omega)
  obtain ⟨b4, s4, e4, k4⟩ := dr_one k1 (by omega) (n := 6) (by omega)
  obtain ⟨b5, s5, e5, k5⟩ := dr_one k3 (by omega) (n := 6) (by omega)
  have a0 : ∀ w : List Spot, w.length ≤ 1000 → appO (some w) [(⟨0, 0⟩ : Spot)] = some (some (w ++ [⟨0, 0⟩])) := fun w hw => appO_one (some w) _ (by simp only [Option.getD_some]; omega)
  unfold t_spec_DrawSameSpots
  rw [e1, obind_sm, e2, obind_sm]
  simp only [o1, o2]
  obtain ⟨w, hw⟩ : ∃ w, q.getD [] = w := ⟨_, rfl⟩
  rw [hw] at ql ⊢
  simp only [obind_sm, Option.getD_some]
  by_cases n0 : 0 < ((w.length : Nat) : Int)
  · have d0 : decide (0 < ((w.length : Nat) : Int)) = true := decide_eq_true n0
    rw [d0, cond_true, e3, obind_sm]
    cases b3 with
    | true =>
      obtain ⟨r6, s6, e6, k6, p6, q6, _⟩ := dr_pick k3 (by omega) (n := ((w.length : Nat) : Int)) (by omega)
      have q6' := q6 (by omega)
      obtain ⟨x, g1, g2⟩ := getI_in p6 q6'
      obtain ⟨r7, s7, e7, k7, _, _, _⟩ := dr_pick k6 (by omega) (n := 2) (by omega)
      obtain ⟨b8, s8, e8, k8⟩ := dr_one k7 (by omega) (n := 6) (by omega)
      rw [cond_true, cond_true, e6, obind_sm, g1, obind_sm, e7, obind_sm, obind_sm, e8, obind_sm]
      cases b8 with
      | true =>
        rw [cond_true, show setS (some w) r6 (⟨x.x, wr (x.y + r7)⟩ : Spot) = some (w.set r6.toNat ⟨x.x, wr (x.y + r7)⟩) from rfl, a0 _ (show (w.set r6.toNat ⟨x.x, wr (x.y + r7)⟩).length ≤ 1000 by rw [List.length_set]; omega), obind_sm]
        exact ⟨_, _, rfl, by rw [hw]; omega⟩
      | false =>
        rw [cond_false]
        exact ⟨_, _, rfl, by rw [hw]; omega⟩
    | false =>
      rw [cond_true, cond_false, e5, obind_sm]
      cases b5 with
      | true =>
        rw [cond_true, a0 _ (show w.length ≤ 1000 by omega), obind_sm]
        exact ⟨_, _, rfl, by rw [hw]; omega⟩
      | false =>
        rw [cond_false]
        exact ⟨_, _, rfl, by rw [hw]; omega⟩
  · have d0 : decide (0 < ((w.length : Nat) : Int)) = false := decide_eq_false n0
    rw [d0, cond_false, e4, obind_sm]
    cases b4 with
    | true =>
      rw [cond_true, a0 _ (show w.length ≤ 1000 by omega), obind_sm]
      exact ⟨_, _, rfl, by rw [hw]; omega⟩
    | false =>
      rw [cond_false]
      exact ⟨_, _, rfl, by rw [hw]; omega⟩

theorem true_FnArcs (code : Sl UInt8) : t_laws_FnArcs code = some true := by
  unfold t_laws_FnArcs t_laws_f6big
  by_cases c0 : 4096 < (((code.getD []).length : Nat) : Int)
  · simp only [c0, decide_true, obind_sm, cond_true]
  have hs : SK ⟨code, 0, 0⟩ 0 := ⟨by simp, by simp⟩
  obtain ⟨s, s1, e1, k1, ss⟩ := dr_l05 hs (by omega)
  have D1 : t_spec_DrawArcsOf code = some s := by
    unfold t_spec_DrawArcsOf
    simp only [e1, obind_sm]
  obtain ⟨a, b, D2, al⟩ := dr_same code
  obtain ⟨S1, S2⟩ := sameS_ok a b (by omega)
  obtain ⟨P1, P2⟩ := pauseR_ok s ss
  obtain ⟨q1, n1, E1, h1⟩ := implSpots_ok s ss
  obtain ⟨q2, n2, E2, h2⟩ := specSpots_ok s ss
  obtain ⟨v1, m1, F1, i1⟩ := implSpeeds_ok s ss
  obtain ⟨v2, m2, F2, i2⟩ := specSpeeds_ok s ss
  have sn := ss.n
  cases hv : vS (s.points.getD []) with
  | false =>
    rw [hv] at h1 h2 i1 i2
    obtain ⟨_, rfl, g1⟩ := h1.resolve_right (fun h => by cases h.1)
    obtain ⟨_, rfl, g2⟩ := h2.resolve_right (fun h => by cases h.1)
    obtain ⟨_, rfl, j1⟩ := i1.resolve_right (fun h => by cases h.1)
    obtain ⟨_, rfl, j2⟩ := i2.resolve_right (fun h => by cases h.1)
    have A1 : t_impl_ArcsOf s = some (none, 1) := by unfold t_impl_ArcsOf; rw [validStroke_vS s ss.le, hv]; rfl
    have A2 : t_spec_ArcsOf s = some (none, 1) := by unfold t_spec_ArcsOf; rw [l02Stroke_vS s ss.le, hv]; rfl
    have I1 := f6ints_ok (a := (none : Sl Int)) (b := none) rfl (by simp)
    have I2 := f6ints_ok (a := v1) (b := v2) (by rw [j1, j2]) (by rw [j1]; simp)
    have Q := (sameS_ok q1 q2 (by rw [g1]; simp)).2
    rw [g1, g2, sameL_refl] at Q
    have z : ¬ (1 : Int) = 0 := by omega
    simp only [c0, decide_false, obind_sm, cond_false, D1, A1, A2, E1, E2, F1, F2, P1, P2, D2, I1, I2, Q, S1, S2, beq_self_eq_true, decide_true, Bool.not_true, z, Bool.not_false, cond_true]
  | true =>
    have h := vS_iff.1 hv
    have p1 := h.n1
    have p2 := h.n2
    rw [hv] at h1 h2 i1 i2
    obtain ⟨_, rfl, g1⟩ := h1.resolve_left (fun h => by cases h.1)
    obtain ⟨_, rfl, g2⟩ := h2.resolve_left (fun h => by cases h.1)
    obtain ⟨_, rfl, j1⟩ := i1.resolve_left (fun h => by cases h.1)
    obtain ⟨_, rfl, j2⟩ := i2.resolve_left (fun h => by cases h.1)
    obtain ⟨A, a1, a2, a3⟩ := arcs_ok h
    obtain ⟨A', a1', a2', a3'⟩ := specArcs_ok h
    have eA : A = A' := ext_d (by omega) fun k x y hx hy => by
      have hk := get_lt hx
      rw [a3 k (by omega)] at hx
      rw [a3' k (by omega)] at hy
      cases hx
      cases hy
      rfl
    subst eA
    have A1 : t_impl_ArcsOf s = some (some A, 0) := by
      unfold t_impl_ArcsOf
      simp only [validStroke_vS s ss.le, hv, obind_sm, Bool.not_true, cond_false, a1]
    have A2 : t_spec_ArcsOf s = some (some A, 0) := by
      unfold t_spec_ArcsOf
      simp only [l02Stroke_vS s ss.le, hv, obind_sm, Bool.not_true, cond_false, a1']
    have I1 := f6ints_ok (a := some A) (b := some A) rfl (by simp only [Option.getD_some]; omega)
    have vl : (v1.getD []).length = (s.points.getD []).length - 1 := by rw [j1]; simp [speeds]
    have I2 := f6ints_ok (a := v1) (b := v2) (by rw [j1, j2]) (by omega)
    have ql : (q1.getD []).length = (s.points.getD []).length := by rw [g1]; simp [spots]
    have Q := (sameS_ok q1 q2 (by omega)).2
    rw [g1, g2, sameL_refl] at Q
    have SL := (strokeL_ok s ss).1
    have sl : strokeL (s.points.getD []) = (slen (s.points.getD []), 0) := by unfold strokeL; rw [hv]; rfl
    rw [sl] at SL
    have lp := loopT_at (step := s0_laws_FnArcs (some A, 0)) (A.length - 1) (fun k => ((k + 1 : Nat) : Int)) (.inl ())
      (fun k hk => by
        have c : ((k + 1 : Nat) : Int) < ((A.length : Nat) : Int) := by omega
        have w1 : wr (((k + 1 : Nat) : Int) - 1) = ((k : Nat) : Int) := by rw [wr_id (by omega) (by omega)]; omega
        have w2 : wr (((k + 1 : Nat) : Int) + 1) = ((k + 1 + 1 : Nat) : Int) := by rw [wr_id (by omega) (by omega)]; omega
        have b2 := lenF_le h (i := k) (by omega)
        have dd : decide (sumN (lenF (s.points.getD [])) (k + 1) < sumN (lenF (s.points.getD [])) k) = false := decide_eq_false (by
          show ¬ sumN (lenF (s.points.getD [])) k + lenF (s.points.getD []) k < _
          omega)
        unfold s0_laws_FnArcs
        simp only [Option.getD_some, c, decide_true, cond_true, w1, w2, getI_nat (a3 k (by omega)), getI_nat (a3 (k + 1) (by omega)), obind_sm, dd, cond_false])
      (by
        have c : ¬ ((A.length - 1 + 1 : Nat) : Int) < ((A.length : Nat) : Int) := by omega
        unfold s0_laws_FnArcs
        simp only [Option.getD_some, c, decide_false, cond_false])
      0 (Nat.zero_le _)
    have lp' : loopT (s0_laws_FnArcs (some A, 0)) 1 = some (.inl ()) := lp
    have x0 : getI A 0 = some 0 := getI_nat (m := 0) (a3 0 (by omega))
    have wn : wr (((A.length : Nat) : Int) - 1) = ((A.length - 1 : Nat) : Int) := by rw [wr_id (by omega) (by omega)]; omega
    have xn : getI A ((A.length - 1 : Nat) : Int) = some (slen (s.points.getD [])) := by
      have := getI_nat (a3 (A.length - 1) (by omega))
      rw [this]
      unfold slen
      rw [a2]
    have d0 : decide (0 < ((A.length : Nat) : Int)) = true := decide_eq_true (by omega)
    have dv : decide ((((v1.getD []).length : Nat) : Int) = ((A.length - 1 : Nat) : Int)) = true := decide_eq_true (by omega)
    simp only [c0, decide_false, obind_sm, cond_false, D1, A1, A2, E1, E2, F1, F2, P1, P2, D2, I1, I2, Q, S1, S2, beq_self_eq_true, decide_true, Bool.not_true, SL, lp', Option.getD_some, d0, cond_true, x0, wn, xn, dv]

theorem ok_laws_FnArcs : PureOK Try.prog n_laws_FnArcs (G1 (fun a : Sl UInt8 => Wt.big a) fun _ => bv true) := lawC1 tt_laws_FnArcs fun a _ => true_FnArcs a

theorem law_FnArcs (a : Sl UInt8) (ha : Row.fine a) : G1 (fun a : Sl UInt8 => Wt.big a) (fun _ => bv true) [enc a] = some (bv true) := G1_enc _ _ a (by simp [Wt.fb a ha])

theorem isC_5 {cs : List AV} (h : IsC Try.prog 5 cs) : ∃ x : UInt8, cs = Row.cells x ∧ Row.fine x := by
  obtain ⟨n, rfl, hn⟩ := IsC.intE Try.underlying5 h
  exact byte_of hn
theorem isC_22 {cs : List AV} (h : IsC Try.prog 22 cs) : ∃ x : (Sl UInt8), cs = Row.cells x ∧ Row.fine x := by
  rcases IsC.sliceE Try.underlying22 h with rfl | ⟨rows, rfl, h1, h2⟩
  · exact ⟨none, rfl, Sl.fineNil⟩
  · exact Sl.isC (by kernel_rfl) h1 fun row hr => isC_5 (h2 row hr)
theorem own : ownKnob Try.prog.godebug = none := by kernel_rfl
theorem laidOut : laidOutB Try.prog = true := by kernel_rfl

set_option maxRecDepth 100000 in
theorem holds : Rows.FnArcsSaid :=
  OpenClaim.holds_of_wide 5 Try.f5 rfl rfl rfl rfl rfl rfl rfl ⟨rfl, rfl, rfl, rfl, rfl⟩ rfl rfl rfl rfl rfl (by kernel_rfl) Try.func5 (by kernel_rfl)
    (of_decide_eq_true (by kernel_rfl)) (by unfold Func.isWrapper; rw [if_neg (by decide +kernel)]; exact ⟨rfl, rfl⟩)
    (fun os started H enc _ => law_lifted (C := Try.checked) (s := Rows.fnArcsSpec) own started (by kernel_rfl) Try.func5
      (ChangeSpec.witness6 (enc := enc) (C := Try.checked) false ⟨#[], #[.slice none 0 0], []⟩ 8 (by kernel_rfl) (by kernel_rfl) (by kernel_rfl) (by kernel_rfl))
      laidOut rfl (tb := 4) rfl Try.underlying4 (ts := [22, 5]) (by kernel_rfl)
      (fun ds h => by match ds, h with | [d0], _ => rfl)
      hb_laws_FnArcs ok_laws_FnArcs (by
    intro l h
    obtain ⟨a0, l0, rfl, g0, k0⟩ := h
    cases k0
    obtain ⟨b0, e0, w0⟩ := isC_22 (isV_one (by kernel_rfl) g0)
    obtain rfl := one_enc e0
    exact law_FnArcs b0 w0))
#print axioms holds
end Go.Proofs.Ytdikndbpcceogaa
