/-
  The law FnBoxes holds, for all arguments: it returns true, and its arguments read behind the call as before. No condition.
-/
import Derived.Test.YtdklppipegepdaaFnBoxesPartA
import Derived.Test.YtdklppipegepdaaRows
namespace Go.Proofs.Ytdklppipegepdaa
open Go Go.Eng Go.Eng.Cod
set_option maxRecDepth 100000
set_option linter.unusedVariables false
set_option linter.unusedSimpArgs false

theorem lastOf_ok {s : Stroke} (h : StV (s.points.getD [])) : t_impl_lastOf s = some (pt (s.points.getD []) ((s.points.getD []).length - 1)) ∧ getI (s.points.getD []) (wr ((((s.points.getD []).length : Nat) : Int) - 1)) = some (pt (s.points.getD []) ((s.points.getD []).length - 1)) := by
  have n1 := h.n1
  have n2 := h.n2
  have w : wr ((((s.points.getD []).length : Nat) : Int) - 1) = (((s.points.getD []).length - 1 : Nat) : Int) := by rw [wr_id (by omega) (by omega)]; omega
  have g := get_pt (l := s.points.getD []) (i := (s.points.getD []).length - 1) (by omega)
  unfold t_impl_lastOf
  rw [w, g, obind_sm]
  exact ⟨rfl, rfl⟩

theorem pt_some {l : List Point} {k : Nat} (hk : k < l.length) : l[k]? = some (pt l k) := (getI_iff.1 (get_pt hk)).2

def pbox (p : Point) : Box := ⟨p.x, p.y, p.x, p.y⟩

def bxN (l : List Point) : Nat → Box
  | 0 => pbox (pt l 0)
  | k + 1 => joinBox (bxN l k) (pbox (pt l k))

def bxS (l : List Point) : Box := bxN l l.length

/-- One box is in another one. -/
structure InB (a b : Box) : Prop where
  x1 : b.x1 ≤ a.x1
  y1 : b.y1 ≤ a.y1
  x2 : a.x2 ≤ b.x2
  y2 : a.y2 ≤ b.y2

theorem InB.refl (a : Box) : InB a a := ⟨Int.le_refl _, Int.le_refl _, Int.le_refl _, Int.le_refl _⟩

theorem InB.trans {a b c : Box} (h : InB a b) (g : InB b c) : InB a c := ⟨Int.le_trans g.x1 h.x1, Int.le_trans g.y1 h.y1, Int.le_trans h.x2 g.x2, Int.le_trans h.y2 g.y2⟩

theorem join_l (a b : Box) : InB a (joinBox a b) := by unfold joinBox; exact ⟨by simp only; omega, by simp only; omega, by simp only; omega, by simp only; omega⟩

theorem join_r (a b : Box) : InB b (joinBox a b) := by unfold joinBox; exact ⟨by simp only; omega, by simp only; omega, by simp only; omega, by simp only; omega⟩

theorem join_min {a b c : Box} (h : InB a c) (g : InB b c) : InB (joinBox a b) c := by
  obtain ⟨h1, h2, h3, h4⟩ := h
  obtain ⟨g1, g2, g3, g4⟩ := g
  unfold joinBox
  exact ⟨by simp only; omega, by simp only; omega, by simp only; omega, by simp only; omega⟩

theorem InB.anti {a b : Box} (h : InB a b) (g : InB b a) : a = b := by
  obtain ⟨h1, h2, h3, h4⟩ := h
  obtain ⟨g1, g2, g3, g4⟩ := g
  obtain ⟨a1, a2, a3, a4⟩ := a
  obtain ⟨b1, b2, b3, b4⟩ := b
  simp only at *
  have e1 : a1 = b1 := by omega
  have e2 : a2 = b2 := by omega
  have e3 : a3 = b3 := by omega
  have e4 : a4 = b4 := by omega
  subst e1 e2 e3 e4
  rfl

theorem join_in {a b : Box} (h : InB b a) : joinBox a b = a := (join_min (InB.refl a) h).anti (join_l a b)

theorem bxN_in (l : List Point) : ∀ {k i : Nat}, i < k → InB (pbox (pt l i)) (bxN l k)
  | 0, i, h => by omega
  | k + 1, i, h => by
    by_cases c : i = k
    · subst c
      exact join_r _ _
    · exact (bxN_in l (k := k) (by omega)).trans (join_l _ _)

theorem bxN_min {l : List Point} {b : Box} (n1 : 1 ≤ l.length) (h : ∀ i, i < l.length → InB (pbox (pt l i)) b) : ∀ {k : Nat}, k ≤ l.length → InB (bxN l k) b
  | 0, _ => h 0 n1
  | k + 1, hk => join_min (bxN_min n1 h (k := k) (by omega)) (h k (by omega))

theorem PtV.box {p : Point} (h : PtV p) : InB (pbox p) ⟨0, 0, 4095, 4095⟩ := ⟨h.x0, h.y0, h.x1, h.y1⟩

theorem bxS_valid {l : List Point} (h : StV l) : validBox (bxS l) = true := by
  have n1 := h.n1
  have o := bxN_min (l := l) n1 (fun i hi => (pt_v h hi).box) (k := l.length) (Nat.le_refl _)
  have i0 := bxN_in l (k := l.length) (i := 0) (by omega)
  have o' : InB (bxS l) ⟨0, 0, 4095, 4095⟩ := o
  have i0' : InB (pbox (pt l 0)) (bxS l) := i0
  obtain ⟨o1, o2, o3, o4⟩ := o'
  obtain ⟨i1, i2, i3, i4⟩ := i0'
  unfold validBox within
  unfold pbox at *
  simp only at *
  simp only [Bool.and_eq_true, decide_eq_true_eq]
  omega

theorem boxOfStroke_ok {s : Stroke} (h : StV (s.points.getD [])) : t_impl_boxOfStroke s = some (bxS (s.points.getD [])) := by
  have n1 := h.n1
  have n2 := h.n2
  obtain ⟨l, hL⟩ : ∃ l, s.points.getD [] = l := ⟨_, rfl⟩
  have fo := (firstOf_ok h).1
  rw [hL] at h n1 n2 fo ⊢
  have lp := loopT_at (step := s0_impl_boxOfStroke s) l.length (fun k => ((bxN l k).x1, (bxN l k).y1, (bxN l k).x2, (bxN l k).y2, (k : Int))) ((bxS l).x1, (bxS l).y1, (bxS l).x2, (bxS l).y2)
    (fun k hk => by
      have c : (k : Int) < ((l.length : Nat) : Int) := by omega
      unfold s0_impl_boxOfStroke
      simp only [hL, c, decide_true, cond_true, get_pt hk, obind_sm, wr_succ hk (by omega)]
      rfl)
    (by
      unfold s0_impl_boxOfStroke
      simp only [hL, Int.lt_irrefl, decide_false, cond_false]
      rfl)
    0 (Nat.zero_le _)
  have lp' : loopT (s0_impl_boxOfStroke s) ((pt l 0).x, (pt l 0).y, (pt l 0).x, (pt l 0).y, 0) = some ((bxS l).x1, (bxS l).y1, (bxS l).x2, (bxS l).y2) := lp
  unfold t_impl_boxOfStroke
  simp only [fo, obind_sm, lp']

theorem boxSt_ok (s : Stroke) (h : StV (s.points.getD [])) : t_impl_BoxOfStroke s = some (bxS (s.points.getD []), 0) := by
  have n2 := h.n2
  unfold t_impl_BoxOfStroke
  simp only [validStroke_vS s (by omega), vS_iff.2 h, obind_sm, Bool.not_true, cond_false, boxOfStroke_ok h]

theorem joinB_ok {a b : Box} (ha : validBox a = true) (hb : validBox b = true) : t_impl_JoinBoxes a b = some (joinBox a b, 0) := by
  unfold t_impl_JoinBoxes
  simp only [ha, hb, obind_sm, Bool.not_true, cond_false]

theorem pt_mem {l : List Point} {i : Nat} (h : i < l.length) : pt l i ∈ l := List.mem_of_getElem? (pt_some h)

theorem two_v {x1 y1 x2 y2 t1 t2 : Int} (hx1 : 0 ≤ x1 ∧ x1 ≤ 4095) (hx2 : 0 ≤ x2 ∧ x2 ≤ 4095) (hy1 : 0 ≤ y1 ∧ y1 ≤ 4095) (hy2 : 0 ≤ y2 ∧ y2 ≤ 4095) (ht1 : 0 ≤ t1) (ht : t1 < t2) (ht2 : t2 ≤ 3600000) : StV [⟨x1, y1, t1⟩, ⟨x2, y2, t2⟩] := by
  refine ⟨fun p hp => ?_, fun k p q h1 h2 => ?_, by simp, by simp⟩
  · simp only [List.mem_cons, List.not_mem_nil, or_false] at hp
    rcases hp with rfl | rfl
    · exact ⟨hx1.1, hx1.2, hy1.1, hy1.2, ht1, by simp only; omega⟩
    · exact ⟨hx2.1, hx2.2, hy2.1, hy2.2, by simp only; omega, ht2⟩
  · match k, h1, h2 with
    | 0, h1, h2 =>
      simp only [List.getElem?_cons_zero, Option.some.injEq] at h1
      simp only [Nat.zero_add, List.getElem?_cons_succ, List.getElem?_cons_zero, Option.some.injEq] at h2
      subst h1 h2
      exact ht
    | k + 1, h1, h2 => simp at h2

theorem dr_l14 {s : l00Src} {k : Int} (h : SK s k) (hk : k ≤ 100000000) {most : Int} (h1 : 0 ≤ most) (h2 : most ≤ 7) : ∃ L s', t_spec_l14Draw s most = some (⟨L⟩, s') ∧ SK s' (k + 20000) ∧ InkV (L.getD []) := by
  obtain ⟨r1, s1, e1, k1, p1, q1, _⟩ := dr_pick h (by omega) (n := 200) (by omega)
  obtain ⟨r3, s3, e3, k3, p3, q3, _⟩ := dr_pick k1 (by omega) (n := most + 1) (by omega)
  have q1' := q1 (by omega)
  have q3' := q3 (by omega)
  have w0 : wr (most + 1) = most + 1 := wr_id (by omega) (by omega)
  obtain ⟨N, hN⟩ := Int.eq_ofNat_of_zero_le (a := r3) (by omega)
  unfold t_spec_l14Draw
  simp only [e1, w0, e3, obind_sm]
  obtain ⟨⟨c1, c2, c3, c4⟩, f1, f2, f3⟩ := loopT_ex (step := s0_spec_l14Draw) (fun i (t : (Sl UInt8) × Int × Int × (Sl Stroke) × Int × Int × Int) => SK ⟨t.1, t.2.1, t.2.2.1⟩ (k + 6 + 1100 * i) ∧ InkI t.2.2.2.1 i t.2.2.2.2.1 ∧ (0 ≤ t.2.2.2.2.1 ∧ t.2.2.2.2.1 ≤ 600 * i) ∧
      (0 ≤ t.2.2.2.2.2.1 ∧ t.2.2.2.2.2.1 ≤ 200 + 300 * i) ∧ t.2.2.2.2.2.2 = N - (i : Int))
    N (fun r => SK ⟨r.1, r.2.1, r.2.2.1⟩ (k + 6 + 1100 * N) ∧ ∃ t, InkI r.2.2.2 N t)
    (fun i ⟨v1, v2, v3, v4, v5, v6, v7⟩ hi ⟨g1, g2, g3, g4, g5⟩ => by
      simp only at g1 g2 g3 g4 g5
      obtain ⟨l, s5, e5, k5, sv, _, st⟩ := dr_stroke g1 (by omega) (time := v5) (x := v6) (y := 300) (by omega) (by omega) (by omega) (by omega)
      obtain ⟨b6, s6, e6, k6⟩ := dr_one k5 (by omega) (n := 3) (by omega)
      have a5 : wr (v7 - 1) = v7 - 1 := wr_id (by omega) (by omega)
      have c : 0 < v7 := by omega
      have a0 : ∀ x : Stroke, appO v4 [x] = some (some (v4.getD [] ++ [x])) := fun x => appO_one v4 x (by rw [g2.len]; omega)
      have a0' : ∀ x : Stroke, appS v4 [x] = some (v4.getD [] ++ [x]) := fun x => appS_cons _ _ _
      cases b6 with
      | true =>
        have w1 : wr (v6 + 60) = v6 + 60 := wr_id (by omega) (by omega)
        obtain ⟨r7, s7, e7, k7, p7, q7, _⟩ := dr_pick k6 (by omega) (n := v6 + 60) (by omega)
        obtain ⟨r8, s8, e8, k8, p8, q8, _⟩ := dr_pick k7 (by omega) (n := 200) (by omega)
        have q7' := q7 (by omega)
        have q8' := q8 (by omega)
        have w2 : wr (r7 + r8) = r7 + r8 := wr_id (by omega) (by omega)
        have w3 : wr (v5 + 5) = v5 + 5 := wr_id (by omega) (by omega)
        have tv := two_v (x1 := r7) (y1 := 200) (x2 := r7 + r8) (y2 := 210) (t1 := v5) (t2 := v5 + 5) (by omega) (by omega) (by omega) (by omega) (by omega) (by omega) (by omega)
        obtain ⟨p, e9, _, pm, pl⟩ := last_ok tv
        obtain ⟨ra, sa, ea, ka, pa, qa, _⟩ := dr_pick k8 (by omega) (n := 50) (by omega)
        have qa' := qa (by omega)
        have pt : v5 ≤ p.t ∧ p.t ≤ v5 + 5 := by
          simp only [List.mem_cons, List.not_mem_nil, or_false] at pm
          rcases pm with rfl | rfl
          · simp only; omega
          · simp only; omega
        have w4 : wr (p.t + 1) = p.t + 1 := wr_id (by omega) (by omega)
        have w5 : wr (p.t + 1 + ra) = p.t + 1 + ra := wr_id (by omega) (by omega)
        have e : s0_spec_l14Draw (v1, v2, v3, v4, v5, v6, v7) = some (.inl (sa.code, sa.pos, sa.seed, some (v4.getD [] ++ [⟨some [⟨r7, 200, v5⟩, ⟨r7 + r8, 210, v5 + 5⟩]⟩]), p.t + 1 + ra, v6, v7 - 1)) := by
          unfold s0_spec_l14Draw
          simp only [c, decide_true, cond_true, e5, e6, w1, e7, e8, w2, w3, e9, ea, obind_sm, a0, a0', w4, w5, a5]
        have nx := g2.step (t' := p.t + 1 + ra) tv (fun q hq => ⟨by
          simp only [List.mem_cons, List.not_mem_nil, or_false] at hq
          rcases hq with rfl | rfl
          · exact Int.le_refl _
          · simp only; omega, by have := pl q hq; omega⟩) (by omega)
        exact .inl ⟨_, e, ka.mono (by omega), nx, ⟨by simp only; omega, by simp only; omega⟩, ⟨by simp only; omega, by simp only; omega⟩, by simp only; omega⟩
      | false =>
        obtain ⟨b7, s7, e7, k7⟩ := dr_one k6 (by omega) (n := 2) (by omega)
        cases b7 with
        | true =>
          obtain ⟨r8, s8, e8, k8, p8, q8, _⟩ := dr_pick k7 (by omega) (n := 300) (by omega)
          obtain ⟨r9, s9, e9, k9, p9, q9, _⟩ := dr_pick k8 (by omega) (n := 300) (by omega)
          have q8' := q8 (by omega)
          have q9' := q9 (by omega)
          have w1 : wr (v6 + 20) = v6 + 20 := wr_id (by omega) (by omega)
          have w2 : wr (v6 + 20 + r8) = v6 + 20 + r8 := wr_id (by omega) (by omega)
          have w3 : wr (v5 + 9) = v5 + 9 := wr_id (by omega) (by omega)
          have w6 : wr (v6 + r9) = v6 + r9 := wr_id (by omega) (by omega)
          have tv := two_v (x1 := v6) (y1 := 200) (x2 := v6 + 20 + r8) (y2 := 500) (t1 := v5) (t2 := v5 + 9) (by omega) (by omega) (by omega) (by omega) (by omega) (by omega) (by omega)
          obtain ⟨p, el, _, pm, pl⟩ := last_ok tv
          obtain ⟨ra, sa, ea, ka, pa, qa, _⟩ := dr_pick k9 (by omega) (n := 50) (by omega)
          have qa' := qa (by omega)
          have pt : v5 ≤ p.t ∧ p.t ≤ v5 + 9 := by
            simp only [List.mem_cons, List.not_mem_nil, or_false] at pm
            rcases pm with rfl | rfl
            · simp only; omega
            · simp only; omega
          have w4 : wr (p.t + 1) = p.t + 1 := wr_id (by omega) (by omega)
          have w5 : wr (p.t + 1 + ra) = p.t + 1 + ra := wr_id (by omega) (by omega)
          have e : s0_spec_l14Draw (v1, v2, v3, v4, v5, v6, v7) = some (.inl (sa.code, sa.pos, sa.seed, some (v4.getD [] ++ [⟨some [⟨v6, 200, v5⟩, ⟨v6 + 20 + r8, 500, v5 + 9⟩]⟩]), p.t + 1 + ra, v6 + r9, v7 - 1)) := by
            unfold s0_spec_l14Draw
            simp only [c, decide_true, cond_true, cond_false, e5, e6, w1, e7, e8, w2, w3, e9, el, ea, obind_sm, a0, a0', w4, w5, w6, a5]
          have nx := g2.step (t' := p.t + 1 + ra) tv (fun q hq => ⟨by
            simp only [List.mem_cons, List.not_mem_nil, or_false] at hq
            rcases hq with rfl | rfl
            · exact Int.le_refl _
            · simp only; omega, by have := pl q hq; omega⟩) (by omega)
          exact .inl ⟨_, e, ka.mono (by omega), nx, ⟨by simp only; omega, by simp only; omega⟩, ⟨by simp only; omega, by simp only; omega⟩, by simp only; omega⟩
        | false =>
          obtain ⟨p, el, _, pm, pl⟩ := last_ok sv
          obtain ⟨ra, sa, ea, ka, pa, qa, _⟩ := dr_pick k7 (by omega) (n := 50) (by omega)
          have qa' := qa (by omega)
          have pt := st p pm
          have w4 : wr (p.t + 1) = p.t + 1 := wr_id (by omega) (by omega)
          have w5 : wr (p.t + 1 + ra) = p.t + 1 + ra := wr_id (by omega) (by omega)
          have e : s0_spec_l14Draw (v1, v2, v3, v4, v5, v6, v7) = some (.inl (sa.code, sa.pos, sa.seed, some (v4.getD [] ++ [⟨some l⟩]), p.t + 1 + ra, v6, v7 - 1)) := by
            unfold s0_spec_l14Draw
            simp only [c, decide_true, cond_true, cond_false, e5, e6, e7, el, ea, obind_sm, a0, a0', w4, w5, a5]
          have nx := g2.step (t' := p.t + 1 + ra) sv (fun q hq => ⟨(st q hq).1, by have := pl q hq; omega⟩) (by omega)
          exact .inl ⟨_, e, ka.mono (by omega), nx, ⟨by simp only; omega, by simp only; omega⟩, ⟨by simp only; omega, by simp only; omega⟩, by simp only; omega⟩)
    (fun ⟨v1, v2, v3, v4, v5, v6, v7⟩ ⟨g1, g2, g3, g4, g5⟩ => by
      simp only at g1 g2 g5
      have c : ¬ 0 < v7 := by omega
      have e : s0_spec_l14Draw (v1, v2, v3, v4, v5, v6, v7) = some (.inr (v1, v2, v3, v4)) := by
        unfold s0_spec_l14Draw
        simp only [c, decide_false, cond_false]
      exact ⟨_, e, g1, v5, g2⟩)
    (s := (s3.code, s3.pos, s3.seed, none, 0, r1, r3)) ⟨k3.mono (by omega), ⟨rfl, fun h => by omega, fun p hp => (by cases hp), fun k p q h1 _ => (by simp at h1)⟩, ⟨by simp only; omega, by simp only; omega⟩, ⟨by simp only; omega, by simp only; omega⟩, by simp only; omega⟩
  simp only at f2 f3
  obtain ⟨t, f3⟩ := f3
  rw [f1]
  refine ⟨c4, _, rfl, f2.mono (by omega), ⟨fun x hx => ?_, f3.inc, by rw [f3.len]; omega⟩⟩
  obtain ⟨l, e, h1, _⟩ := f3.st x hx
  exact ⟨l, e, h1⟩

theorem a2ink_ex (code : Sl UInt8) : ∃ L, t_spec_A2Ink code = some ⟨L⟩ ∧ InkV (L.getD []) := by
  have hs : SK ⟨code, 0, 0⟩ 0 := ⟨by simp, by simp⟩
  obtain ⟨b1, s1, e1, k1⟩ := dr_one hs (by omega) (n := 3) (by omega)
  unfold t_spec_A2Ink
  simp only [e1, obind_sm]
  cases b1 with
  | true =>
    obtain ⟨L, s2, e2, _, iv⟩ := dr_l14 k1 (by omega) (most := 6) (by omega) (by omega)
    simp only [cond_true, e2, obind_sm]
    exact ⟨L, rfl, iv⟩
  | false =>
    obtain ⟨L, s2, e2, _, iv, _⟩ := dr_ink k1 (by omega) (most := 5) (by omega) (by omega)
    simp only [cond_false, e2, obind_sm]
    exact ⟨L, rfl, iv⟩

def stAt (L : List Stroke) (i : Nat) : List Point := (L.getD i ⟨none⟩).points.getD []

theorem st_get {L : List Stroke} (h : InkV L) {i : Nat} (hi : i < L.length) : L[i]? = some ⟨some (stAt L i)⟩ ∧ StV (stAt L i) := by
  obtain ⟨x, hx⟩ : ∃ x, L[i]? = some x := ⟨L[i], List.getElem?_eq_getElem hi⟩
  obtain ⟨l, rfl, hl⟩ := h.st x (List.mem_of_getElem? hx)
  have e : stAt L i = l := by unfold stAt; rw [List.getD_eq_getElem?_getD, hx]; rfl
  rw [e]
  exact ⟨hx, hl⟩

theorem validInk_ok {L : Sl Stroke} (h : InkV (L.getD [])) : t_impl_ValidInk ⟨L⟩ = some true := by
  have hn := h.n
  have lp := loopT_first (step := s0_impl_ValidInk ⟨L⟩) (L.getD []) (fun _ _ => (none : Option Bool)) (.inl ()) .inr
    (fun k x hx => by
      have hk := get_lt hx
      obtain ⟨g, sv⟩ := st_get h hk
      rw [hx] at g
      cases g
      have c : (k : Int) < (((L.getD []).length : Nat) : Int) := by omega
      have V := validStroke_vS ⟨some (stAt (L.getD []) k)⟩ sv.b.le
      simp only [Option.getD_some, vS_iff.2 sv] at V
      unfold s0_impl_ValidInk
      by_cases k0 : k = 0
      · have D : decide ((0 : Int) < (k : Int)) = false := decide_eq_false (by omega)
        simp only [c, decide_true, cond_true, getI_nat hx, obind_sm, V, Bool.not_true, cond_false, D, Bool.not_false, Bool.and_false, wr_succ hk (by omega)]
      · have D : decide ((0 : Int) < (k : Int)) = true := decide_eq_true (by omega)
        obtain ⟨g', sv'⟩ := st_get h (i := k - 1) (by omega)
        have w : wr ((k : Int) - 1) = ((k - 1 : Nat) : Int) := by rw [wr_id (by omega) (by omega)]; omega
        have f := (firstOf_ok (s := ⟨some (stAt (L.getD []) k)⟩) sv).1
        have la := (lastOf_ok (s := ⟨some (stAt (L.getD []) (k - 1))⟩) sv').1
        simp only [Option.getD_some] at f la
        have inc := h.inc (k - 1) _ _ g' (by rw [Nat.sub_add_cancel (by omega)]; exact hx) _ (pt_mem (l := stAt (L.getD []) (k - 1)) (i := (stAt (L.getD []) (k - 1)).length - 1) (by have := sv'.n1; omega)) _ (pt_mem (l := stAt (L.getD []) k) (i := 0) sv.n1)
        have D2 : decide ((pt (stAt (L.getD []) k) 0).t ≤ (pt (stAt (L.getD []) (k - 1)) ((stAt (L.getD []) (k - 1)).length - 1)).t) = false := decide_eq_false (by omega)
        simp only [c, decide_true, cond_true, getI_nat hx, obind_sm, V, Bool.not_true, cond_false, D, Bool.not_false, Bool.and_self, f, w, getI_nat g', la, D2, wr_succ hk (by omega)])
    (by
      unfold s0_impl_ValidInk
      simp only [Int.lt_irrefl, decide_false, cond_false])
  rw [firstL_none (fun _ _ _ => rfl)] at lp
  have d : decide ((((L.getD []).length : Nat) : Int) ≤ 16) = true := decide_eq_true (by omega)
  unfold t_impl_ValidInk
  simp only [lp, obind_sm, d]

def bxI (L : List Stroke) : Nat → Box
  | 0 => bxS (stAt L 0)
  | k + 1 => joinBox (bxI L k) (bxS (stAt L k))

theorem join_valid {a b : Box} (ha : validBox a = true) (hb : validBox b = true) : validBox (joinBox a b) = true := by
  unfold validBox within at *
  unfold joinBox
  simp only [Bool.and_eq_true, decide_eq_true_eq] at *
  omega

theorem bxI_valid {L : List Stroke} (h : InkV L) (h1 : 1 ≤ L.length) : ∀ {k : Nat}, k ≤ L.length → validBox (bxI L k) = true
  | 0, _ => bxS_valid (st_get h h1).2
  | k + 1, hk => join_valid (bxI_valid h h1 (k := k) (by omega)) (bxS_valid (st_get h (by omega)).2)

theorem boxOfInk_ok {L : Sl Stroke} (h : InkV (L.getD [])) (h1 : 1 ≤ (L.getD []).length) : t_impl_boxOfInk ⟨L⟩ = some (bxI (L.getD []) (L.getD []).length) := by
  have hn := h.n
  have lp := loopT_at (step := s0_impl_boxOfInk ⟨L⟩) (L.getD []).length (fun k => ((bxI (L.getD []) k).x1, (bxI (L.getD []) k).y1, (bxI (L.getD []) k).x2, (bxI (L.getD []) k).y2, (k : Int))) ((bxI (L.getD []) (L.getD []).length).x1, (bxI (L.getD []) (L.getD []).length).y1, (bxI (L.getD []) (L.getD []).length).x2, (bxI (L.getD []) (L.getD []).length).y2)
    (fun k hk => by
      have c : (k : Int) < (((L.getD []).length : Nat) : Int) := by omega
      obtain ⟨g, sv⟩ := st_get h hk
      have b := boxOfStroke_ok (s := ⟨some (stAt (L.getD []) k)⟩) sv
      simp only [Option.getD_some] at b
      unfold s0_impl_boxOfInk
      simp only [c, decide_true, cond_true, getI_nat g, b, obind_sm, wr_succ hk (by omega)]
      rfl)
    (by
      unfold s0_impl_boxOfInk
      simp only [Int.lt_irrefl, decide_false, cond_false])
    0 (Nat.zero_le _)
  obtain ⟨g, sv⟩ := st_get h (i := 0) (by omega)
  have b := boxOfStroke_ok (s := ⟨some (stAt (L.getD []) 0)⟩) sv
  simp only [Option.getD_some] at b
  have g0 : getI (L.getD []) 0 = some ⟨some (stAt (L.getD []) 0)⟩ := getI_nat (m := 0) g
  have lp' : loopT (s0_impl_boxOfInk ⟨L⟩) ((bxS (stAt (L.getD []) 0)).x1, (bxS (stAt (L.getD []) 0)).y1, (bxS (stAt (L.getD []) 0)).x2, (bxS (stAt (L.getD []) 0)).y2, 0) = some ((bxI (L.getD []) (L.getD []).length).x1, (bxI (L.getD []) (L.getD []).length).y1, (bxI (L.getD []) (L.getD []).length).x2, (bxI (L.getD []) (L.getD []).length).y2) := lp
  unfold t_impl_boxOfInk
  simp only [g0, b, obind_sm, lp']

theorem true_FnBoxes (code : Sl UInt8) : t_laws_FnBoxes code = some true := by
  unfold t_laws_FnBoxes t_laws_a2Long
  by_cases c0 : 3000 < (((code.getD []).length : Nat) : Int)
  · simp [c0]
  obtain ⟨L, e1, h⟩ := a2ink_ex code
  have z3 : ¬ (3000 : Int) < ((((none : Sl UInt8).getD []).length : Nat) : Int) := by simp
  by_cases n0 : (((L.getD []).length : Nat) : Int) = 0
  · simp only [c0, z3, decide_false, cond_false, obind_sm, e1, n0, decide_true, cond_true]
  · have h1 : 1 ≤ (L.getD []).length := by omega
    have hn := h.n
    have B : t_impl_BoxOfInk ⟨L⟩ = some (bxI (L.getD []) (L.getD []).length, 0) := by
      unfold t_impl_BoxOfInk
      simp only [validInk_ok h, obind_sm, Bool.not_true, cond_false, n0, decide_false, boxOfInk_ok h h1]
    obtain ⟨g, sv⟩ := st_get h (i := 0) (by omega)
    have b := boxSt_ok ⟨some (stAt (L.getD []) 0)⟩ sv
    simp only [Option.getD_some] at b
    have g0 : getI (L.getD []) 0 = some ⟨some (stAt (L.getD []) 0)⟩ := getI_nat (m := 0) g
    have lp := loopT_at (step := s0_laws_FnBoxes ⟨L⟩) ((L.getD []).length - 1) (fun k => ((bxI (L.getD []) (k + 1)).x1, (bxI (L.getD []) (k + 1)).y1, (bxI (L.getD []) (k + 1)).x2, (bxI (L.getD []) (k + 1)).y2, ((k + 1 : Nat) : Int))) (.inl ((bxI (L.getD []) (L.getD []).length).x1, (bxI (L.getD []) (L.getD []).length).y1, (bxI (L.getD []) (L.getD []).length).x2, (bxI (L.getD []) (L.getD []).length).y2))
      (fun k hk => by
        have c : ((k + 1 : Nat) : Int) < (((L.getD []).length : Nat) : Int) := by omega
        obtain ⟨g, sv⟩ := st_get h (i := k + 1) (by omega)
        have b := boxSt_ok ⟨some (stAt (L.getD []) (k + 1))⟩ sv
        simp only [Option.getD_some] at b
        have j := joinB_ok (bxI_valid h h1 (k := k + 1) (by omega)) (bxS_valid sv)
        have j' : t_impl_JoinBoxes ⟨(bxI (L.getD []) (k + 1)).x1, (bxI (L.getD []) (k + 1)).y1, (bxI (L.getD []) (k + 1)).x2, (bxI (L.getD []) (k + 1)).y2⟩ (bxS (stAt (L.getD []) (k + 1))) = some (bxI (L.getD []) (k + 1 + 1), 0) := j
        have ws : wr (((k + 1 : Nat) : Int) + 1) = ((k + 1 + 1 : Nat) : Int) := by rw [wr_id (by omega) (by omega)]; omega
        unfold s0_laws_FnBoxes
        simp only [c, decide_true, cond_true, getI_nat g, b, obind_sm, j', Bool.not_true, cond_false, ws])
      (by
        have e : (L.getD []).length - 1 + 1 = (L.getD []).length := by omega
        unfold s0_laws_FnBoxes
        simp only [e, Int.lt_irrefl, decide_false, cond_false])
      0 (Nat.zero_le _)
    have b1 : bxI (L.getD []) 1 = bxS (stAt (L.getD []) 0) := join_in (InB.refl _)
    simp only [Nat.zero_add, b1] at lp
    have lp' : loopT (s0_laws_FnBoxes ⟨L⟩) ((bxS (stAt (L.getD []) 0)).x1, (bxS (stAt (L.getD []) 0)).y1, (bxS (stAt (L.getD []) 0)).x2, (bxS (stAt (L.getD []) 0)).y2, 1) = _ := lp
    have V := bxI_valid h h1 (k := (L.getD []).length) (Nat.le_refl _)
    simp only [c0, z3, decide_false, cond_false, obind_sm, e1, n0, B, g0, b, lp', decide_true, cond_true, V]

theorem ok_laws_FnBoxes : PureOK Try.prog n_laws_FnBoxes (G1 (fun a : Sl UInt8 => Wt.big a) fun _ => bv true) := lawC1 tt_laws_FnBoxes fun a _ => true_FnBoxes a

theorem law_FnBoxes (a : Sl UInt8) (ha : Row.fine a) : G1 (fun a : Sl UInt8 => Wt.big a) (fun _ => bv true) [enc a] = some (bv true) := G1_enc _ _ a (by simp [Wt.fb a ha])

theorem isC_5 {cs : List AV} (h : IsC Try.prog 5 cs) : ∃ x : UInt8, cs = Row.cells x ∧ Row.fine x := by
  obtain ⟨n, rfl, hn⟩ := IsC.intE Try.underlying5 h
  exact byte_of hn
theorem isC_22 {cs : List AV} (h : IsC Try.prog 22 cs) : ∃ x : (Sl UInt8), cs = Row.cells x ∧ Row.fine x := by
  rcases IsC.sliceE Try.underlying22 h with rfl | ⟨rows, rfl, h1, h2⟩
  · exact ⟨none, rfl, Sl.fineNil⟩
  · exact Sl.isC (by kernel_rfl) h1 fun row hr => isC_5 (h2 row hr)
theorem own : ownKnob Try.prog.godebug = none := by kernel_rfl
theorem laidOut : laidOutB Try.prog = true := by kernel_rfl

set_option maxRecDepth 100000 in
theorem holds : Rows.FnBoxesSaid :=
  OpenClaim.holds_of_wide 8 Try.f8 rfl rfl rfl rfl rfl rfl rfl ⟨rfl, rfl, rfl, rfl, rfl⟩ rfl rfl rfl rfl rfl (by kernel_rfl) Try.func8 (by kernel_rfl)
    (of_decide_eq_true (by kernel_rfl)) (by unfold Func.isWrapper; rw [if_neg (by decide +kernel)]; exact ⟨rfl, rfl⟩)
    (fun os started H enc _ => law_lifted (C := Try.checked) (s := Rows.fnBoxesSpec) own started (by kernel_rfl) Try.func8
      (ChangeSpec.witness6 (enc := enc) (C := Try.checked) false ⟨#[], #[.slice none 0 0], []⟩ 8 (by kernel_rfl) (by kernel_rfl) (by kernel_rfl) (by kernel_rfl))
      laidOut rfl (tb := 4) rfl Try.underlying4 (ts := [22, 5]) (by kernel_rfl)
      (fun ds h => by match ds, h with | [d0], _ => rfl)
      hb_laws_FnBoxes ok_laws_FnBoxes (by
    intro l h
    obtain ⟨a0, l0, rfl, g0, k0⟩ := h
    cases k0
    obtain ⟨b0, e0, w0⟩ := isC_22 (isV_one (by kernel_rfl) g0)
    obtain rfl := one_enc e0
    exact law_FnBoxes b0 w0))
#print axioms holds
end Go.Proofs.Ytdklppipegepdaa
