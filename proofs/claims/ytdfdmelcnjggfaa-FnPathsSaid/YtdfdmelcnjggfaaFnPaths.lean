/-
  The law FnPaths holds, for all arguments: it returns true, and its arguments read behind the call as before. No condition.
-/
import Derived.Test.YtdfdmelcnjggfaaFnPathsPartA
import Derived.Test.YtdfdmelcnjggfaaRows
namespace Go.Proofs.Ytdfdmelcnjggfaa
open Go Go.Eng Go.Eng.Cod
set_option maxRecDepth 100000
set_option linter.unusedVariables false
set_option linter.unusedSimpArgs false

/-- The source has been read up to `k` at most. -/
structure SK (s : l00Src) (k : Int) : Prop where
  lo : 0 ≤ s.pos
  hi : s.pos ≤ k
theorem SK.mono {s : l00Src} {k k' : Int} (h : SK s k) (hk : k ≤ k') : SK s k' := ⟨h.lo, by have := h.hi; omega⟩
theorem and255 (a : Int) : 0 ≤ wr (IntKind.u64.wrap ((BitVec.ofInt 64 a &&& BitVec.ofInt 64 255).toNat : Nat)) ∧ wr (IntKind.u64.wrap ((BitVec.ofInt 64 a &&& BitVec.ofInt 64 255).toNat : Nat)) ≤ 255 := by
  have h1 : (BitVec.ofInt 64 a &&& BitVec.ofInt 64 255).toNat ≤ 255 := by
    rw [BitVec.toNat_and]
    have : (BitVec.ofInt 64 255).toNat = 255 := by decide
    rw [this]
    exact Nat.and_le_right
  generalize (BitVec.ofInt 64 a &&& BitVec.ofInt 64 255).toNat = r at h1
  have h2 : IntKind.u64.wrap (r : Int) = r := by
    simp only [IntKind.wrap, IntKind.bits, IntKind.signed]
    simp only [Bool.false_and, Bool.false_eq_true, if_false]
    omega
  rw [h2, wr_id (by omega) (by omega)]
  omega
theorem andFF (a : Int) : 0 ≤ wr (IntKind.u64.wrap ((BitVec.ofInt 64 a &&& BitVec.ofInt 64 16777215).toNat : Nat)) ∧ wr (IntKind.u64.wrap ((BitVec.ofInt 64 a &&& BitVec.ofInt 64 16777215).toNat : Nat)) ≤ 16777215 := by
  have h1 : (BitVec.ofInt 64 a &&& BitVec.ofInt 64 16777215).toNat ≤ 16777215 := by
    rw [BitVec.toNat_and]
    have : (BitVec.ofInt 64 16777215).toNat = 16777215 := by decide
    rw [this]
    exact Nat.and_le_right
  generalize (BitVec.ofInt 64 a &&& BitVec.ofInt 64 16777215).toNat = r at h1
  have h2 : IntKind.u64.wrap (r : Int) = r := by
    simp only [IntKind.wrap, IntKind.bits, IntKind.signed]
    simp only [Bool.false_and, Bool.false_eq_true, if_false]
    omega
  rw [h2, wr_id (by omega) (by omega)]
  omega
theorem getI_in {A : Type} {l : List A} {i : Int} (h0 : 0 ≤ i) (h1 : i < (l.length : Nat)) : ∃ a, getI l i = some a ∧ l[i.toNat]? = some a := by
  obtain ⟨m, rfl⟩ := Int.eq_ofNat_of_zero_le h0
  have h2 : m < l.length := by omega
  exact ⟨l[m], getI_nat (List.getElem?_eq_getElem h2), by simp [h2]⟩
theorem remI_pos {a b : Int} (ha : 0 ≤ a) (hb : 0 < b) : ∃ r, remI a b = some r ∧ 0 ≤ r ∧ r < b := by
  refine ⟨a.tmod b, ?_, Int.tmod_nonneg b ha, Int.tmod_lt_of_pos a hb⟩
  have : ¬ b = 0 := by omega
  simp [remI, this]
theorem dr_next {s : l00Src} {k : Int} (h : SK s k) (hk : k ≤ 1000000000000) : ∃ r s', t_spec_l00Src_next s = some (r, s') ∧ SK s' (k + 1) ∧ 0 ≤ r ∧ r ≤ 255 := by
  obtain ⟨h1, h2⟩ := h
  have w : wr (s.pos + 1) = s.pos + 1 := wr_id (by omega) (by omega)
  have b1 := fun a => (and255 a).1
  have b2 := fun a => (and255 a).2
  unfold t_spec_l00Src_next
  rw [w]
  by_cases c : s.pos < ((s.code.getD []).length : Nat)
  · obtain ⟨a, ha, _⟩ := getI_in h1 c
    have c2 : s.pos + 1 ≤ ((s.code.getD []).length : Nat) := by omega
    have := a.toNat_lt
    simp only [c, decide_true, cond_true, ha, obind_sm, c2]
    exact ⟨_, _, rfl, ⟨by simp only; omega, by simp only; omega⟩, by omega, by omega⟩
  · have c2 : ¬ s.pos + 1 ≤ ((s.code.getD []).length : Nat) := by omega
    simp only [c, decide_false, cond_false, c2]
    exact ⟨_, _, rfl, ⟨by simp only; omega, by simp only; omega⟩, b1 _, b2 _⟩
theorem dr_pick {s : l00Src} {k : Int} (h : SK s k) (hk : k ≤ 100000000000) {n : Int} (hn : n ≤ 60000) : ∃ r s', t_spec_l00Src_pick s n = some (r, s') ∧ SK s' (k + 2) ∧ 0 ≤ r ∧ (1 ≤ n → r < n) ∧ (n ≤ 1 → r = 0) := by
  unfold t_spec_l00Src_pick
  by_cases c : n ≤ 1
  · simp only [c, decide_true, cond_true]
    exact ⟨0, _, rfl, ⟨h.lo, by have := h.hi; simp only; omega⟩, by omega, fun _ => by omega, fun _ => rfl⟩
  · obtain ⟨r1, s1, e1, k1, p1, q1⟩ := dr_next h (by omega)
    simp only [c, decide_false, cond_false]
    have e1' : t_spec_l00Src_next ⟨s.code, s.pos, s.seed⟩ = some (r1, s1) := e1
    rw [e1', obind_sm]
    by_cases c2 : 200 < n
    · obtain ⟨r2, s2, e2, k2, p2, q2⟩ := dr_next k1 (by omega)
      have e2' : t_spec_l00Src_next ⟨s1.code, s1.pos, s1.seed⟩ = some (r2, s2) := e2
      have w1 : wr (r1 * 256) = r1 * 256 := wr_id (by omega) (by omega)
      have w2 : wr (r1 * 256 + r2) = r1 * 256 + r2 := wr_id (by omega) (by omega)
      obtain ⟨q, e3, p3, q3⟩ := remI_pos (a := r1 * 256 + r2) (b := n) (by omega) (by omega)
      simp only [c2, decide_true, cond_true, e2', obind_sm, w1, w2, e3]
      exact ⟨_, _, rfl, ⟨k2.lo, by have := k2.hi; simp only; omega⟩, p3, fun _ => q3, fun h => False.elim h⟩
    · obtain ⟨q, e3, p3, q3⟩ := remI_pos (a := r1) (b := n) (by omega) (by omega)
      simp only [c2, decide_false, cond_false, e3, obind_sm]
      exact ⟨_, _, rfl, ⟨k1.lo, by have := k1.hi; simp only; omega⟩, p3, fun _ => q3, fun h => False.elim h⟩
theorem dr_one {s : l00Src} {k : Int} (h : SK s k) (hk : k ≤ 100000000000) {n : Int} (hn : n ≤ 60000) : ∃ b s', t_spec_l00Src_one s n = some (b, s') ∧ SK s' (k + 2) := by
  obtain ⟨r, s', e, k', _⟩ := dr_pick h hk hn
  have e' : t_spec_l00Src_pick ⟨s.code, s.pos, s.seed⟩ n = some (r, s') := e
  unfold t_spec_l00Src_one
  simp only [e', obind_sm]
  exact ⟨_, _, rfl, k'⟩
theorem dr_among {s : l00Src} {k : Int} (h : SK s k) (hk : k ≤ 100000000000) {l : List Int} (h0 : l ≠ []) (hl : l.length ≤ 60000) : ∃ r s', t_spec_l00Src_among s (some l) = some (r, s') ∧ SK s' (k + 2) ∧ r ∈ l := by
  have hp : 0 < l.length := List.length_pos_iff.2 h0
  obtain ⟨r, s', e, k', p, q, _⟩ := dr_pick h hk (n := (l.length : Nat)) (by omega)
  have e' : t_spec_l00Src_pick ⟨s.code, s.pos, s.seed⟩ (l.length : Nat) = some (r, s') := e
  obtain ⟨a, ha, ha2⟩ := getI_in (l := l) p (q (by omega))
  unfold t_spec_l00Src_among
  simp only [Option.getD_some, e', obind_sm, ha]
  exact ⟨_, _, rfl, k', List.mem_of_getElem? ha2⟩

/-- A feature that is one. -/
structure FOK (f : Feat) : Prop where
  x0 : 0 ≤ f.x
  x1 : f.x ≤ 255
  y0 : 0 ≤ f.y
  y1 : f.y ≤ 255
  d0 : 0 ≤ f.d
  d1 : f.d ≤ 7
theorem clip_ok {x : Int} (h : -1000 ≤ x) (h' : x ≤ 1000) : 0 ≤ max (0 : Int) (min 255 x) ∧ max (0 : Int) (min 255 x) ≤ 255 := by omega
theorem dr_feats {s : l00Src} {k : Int} (h : SK s k) (hk : k ≤ 1000000) {most : Int} (h1 : 1 ≤ most) (h2 : most ≤ 100) : ∃ l s', t_spec_l09Draw s most = some (some l, s') ∧ SK s' (k + 1000) ∧ 1 ≤ l.length ∧ (l.length : Int) ≤ most ∧ ∀ f ∈ l, FOK f := by
  obtain ⟨r1, s1, e1, k1, p1, q1, _⟩ := dr_pick h (by omega) (n := 256) (by omega)
  obtain ⟨r2, s2, e2, k2, p2, q2, _⟩ := dr_pick k1 (by omega) (n := 256) (by omega)
  obtain ⟨r3, s3, e3, k3, p3, q3, _⟩ := dr_pick k2 (by omega) (n := most) (by omega)
  have q1' := q1 (by omega)
  have q2' := q2 (by omega)
  have q3' := q3 h1
  have w1 : wr (1 + r3) = 1 + r3 := wr_id (by omega) (by omega)
  obtain ⟨N, hN⟩ := Int.eq_ofNat_of_zero_le (a := 1 + r3) (by omega)
  unfold t_spec_l09Draw
  simp only [e1, e2, e3, obind_sm, w1]
  obtain ⟨⟨c1, c2, c3, c4⟩, f1, l, f2, f3, f4, f5⟩ := loopT_ex (step := s0_spec_l09Draw) (fun i (t : (Sl UInt8) × Int × Int × (Sl Feat) × Int × Int × Int) => SK ⟨t.1, t.2.1, t.2.2.1⟩ (k + 6 + 6 * i) ∧ (∃ l, t.2.2.2.1 = some l ∧ l.length = i ∧ ∀ f ∈ l, FOK f) ∧ (0 ≤ t.2.2.2.2.1 ∧ t.2.2.2.2.1 ≤ 255) ∧ (0 ≤ t.2.2.2.2.2.1 ∧ t.2.2.2.2.2.1 ≤ 255) ∧ t.2.2.2.2.2.2 = N - (i : Int))
    N (fun r => ∃ l, r.2.2.2 = some l ∧ l.length = N ∧ (∀ f ∈ l, FOK f) ∧ SK ⟨r.1, r.2.1, r.2.2.1⟩ (k + 6 + 6 * N))
    (fun i ⟨t1, t2, t3, t4, t5, t6, t7⟩ hi ⟨g1, ⟨l, g2, g3, g4⟩, g5, g6, g7⟩ => by
      simp only at g1 g2 g3 g4 g5 g6 g7
      subst g2
      obtain ⟨r4, s4, e4, k4, p4, q4, _⟩ := dr_pick g1 (by omega) (n := 8) (by omega)
      obtain ⟨r5, s5, e5, k5, p5, q5, _⟩ := dr_pick k4 (by omega) (n := 61) (by omega)
      obtain ⟨r6, s6, e6, k6, p6, q6, _⟩ := dr_pick k5 (by omega) (n := 61) (by omega)
      have q4' := q4 (by omega)
      have q5' := q5 (by omega)
      have q6' := q6 (by omega)
      have a1 : wr (t5 + r5) = t5 + r5 := wr_id (by omega) (by omega)
      have a2 : wr (t5 + r5 - 30) = t5 + r5 - 30 := wr_id (by omega) (by omega)
      have a3 : wr (t6 + r6) = t6 + r6 := wr_id (by omega) (by omega)
      have a4 : wr (t6 + r6 - 30) = t6 + r6 - 30 := wr_id (by omega) (by omega)
      have a5 : wr (t7 - 1) = t7 - 1 := wr_id (by omega) (by omega)
      have c : 0 < t7 := by omega
      have ap := appO_some (s := some l) (l := [(⟨t5, t6, r4⟩ : Feat)]) (by simp; omega)
      have e : s0_spec_l09Draw (t1, t2, t3, some l, t5, t6, t7) = some (.inl (s6.code, s6.pos, s6.seed, some (l ++ [⟨t5, t6, r4⟩]), max 0 (min 255 (t5 + r5 - 30)), max 0 (min 255 (t6 + r6 - 30)), t7 - 1)) := by
        unfold s0_spec_l09Draw
        simp only [c, decide_true, cond_true, e4, e5, e6, obind_sm, ap, a1, a2, a3, a4, a5]
        rfl
      refine .inl ⟨_, e, k6.mono (by omega), ⟨_, rfl, by simp [g3], fun f hf => ?_⟩, clip_ok (by omega) (by omega), clip_ok (by omega) (by omega), by simp only; omega⟩
      rcases List.mem_append.1 hf with hf | hf
      · exact g4 f hf
      · have : f = ⟨t5, t6, r4⟩ := by simpa using hf
        subst this
        exact ⟨g5.1, g5.2, g6.1, g6.2, p4, by simp only; omega⟩)
    (fun ⟨t1, t2, t3, t4, t5, t6, t7⟩ ⟨g1, ⟨l, g2, g3, g4⟩, g5, g6, g7⟩ => by
      simp only at g1 g2 g3 g4 g5 g6 g7
      have c : ¬ 0 < t7 := by omega
      have e : s0_spec_l09Draw (t1, t2, t3, t4, t5, t6, t7) = some (.inr (t1, t2, t3, t4)) := by
        unfold s0_spec_l09Draw
        simp only [c, decide_false, cond_false]
      exact ⟨_, e, l, g2, g3, g4, g1⟩)
    (s := (s3.code, s3.pos, s3.seed, some [], r1, r2, 1 + r3)) ⟨k3.mono (by omega), ⟨[], rfl, rfl, fun f hf => by cases hf⟩, ⟨p1, by simp only; omega⟩, ⟨p2, by simp only; omega⟩, by simp only; omega⟩
  simp only at f2 f5
  subst f2
  rw [f1]
  exact ⟨l, _, rfl, f5.mono (by omega), by omega, by omega, f4⟩

theorem size_ok {n : Int} (h : -1000000 ≤ n) (h' : n ≤ 1000000) : ∃ r, t_spec_l09Size n = some r ∧ 0 ≤ r ∧ (r = n ∨ r = -n) := by
  unfold t_spec_l09Size
  by_cases c : n < 0
  · have w : wr (0 - n) = -n := by rw [wr_id (by omega) (by omega)]; omega
    simp only [c, decide_true, cond_true, w]
    exact ⟨_, rfl, by omega, .inr rfl⟩
  · simp only [c, decide_false, cond_false]
    exact ⟨_, rfl, by omega, .inl rfl⟩
/-- Two sequences, and a band for both. -/
structure Two (a b : List Feat) (band : Int) : Prop where
  a1 : 1 ≤ a.length
  a2 : a.length ≤ 9
  b1 : 1 ≤ b.length
  b2 : b.length ≤ 9
  fa : ∀ f ∈ a, FOK f
  fb : ∀ f ∈ b, FOK f
  d1 : (a.length : Int) - b.length ≤ band
  d2 : (b.length : Int) - a.length ≤ band
  b0 : 0 ≤ band
  b3 : band ≤ 20
theorem two_ex (code : Sl UInt8) : ∃ a b band, t_spec_A2Two code = some (some a, some b, band) ∧ Two a b band := by
  obtain ⟨a, s1, e1, k1, la1, la2, fa⟩ := dr_feats (s := ⟨code, 0, 0⟩) (k := 0) ⟨by simp, by simp⟩ (by omega) (most := 8) (by omega) (by omega)
  obtain ⟨b, s2, e2, k2, lb1, lb2, fb⟩ := dr_feats k1 (by omega) (most := 8) (by omega) (by omega)
  obtain ⟨r3, s3, e3, k3⟩ := dr_one k2 (by omega) (n := 2) (by omega)
  unfold t_spec_A2Two
  simp only [e1, e2, e3, obind_sm]
  cases r3 with
  | true =>
    obtain ⟨r4, s4, e4, k4, p4, q4, _⟩ := dr_pick k3 (by omega) (n := 256) (by omega)
    have q4' := q4 (by omega)
    have ap := appO_some (s := some ([] : List Feat)) (l := a) (by simp; omega)
    obtain ⟨f, hf, hf2⟩ := getI_in (l := a) (i := 0) (by omega) (by omega)
    have fm := fa f (List.mem_of_getElem? hf2)
    have ee : appS (some ([] : List Feat)) a = some a := by simp [appS]
    have w1 : wr ((a.length : Int) - (a.length : Int)) = 0 := by rw [wr_id (by omega) (by omega)]; omega
    obtain ⟨r5, e5, p5, q5⟩ := size_ok (n := 0) (by omega) (by omega)
    obtain ⟨r6, s6, e6, k6, p6, q6, _⟩ := dr_pick k4 (by omega) (n := 4) (by omega)
    have q6' := q6 (by omega)
    have w2 : wr (r5 + r6) = r5 + r6 := wr_id (by omega) (by omega)
    simp only [cond_true, Option.getD_some, ap, obind_sm, e4, ee, hf, setS, Option.map_some, List.length_set, w1, e5, e6, w2]
    refine ⟨_, _, _, rfl, la1, by omega, by simp; omega, by simp; omega, fa, fun g hg => ?_, by simp; omega, by simp; omega, by omega, by omega⟩
    rcases List.mem_or_eq_of_mem_set hg with hg | hg
    · exact fa g hg
    · subst hg
      exact ⟨p4, by simp only; omega, fm.y0, fm.y1, fm.d0, fm.d1⟩
  | false =>
    have w1 : wr ((a.length : Int) - (b.length : Int)) = (a.length : Int) - b.length := wr_id (by omega) (by omega)
    obtain ⟨r5, e5, p5, q5⟩ := size_ok (n := (a.length : Int) - b.length) (by omega) (by omega)
    obtain ⟨r6, s6, e6, k6, p6, q6, _⟩ := dr_pick k3 (by omega) (n := 4) (by omega)
    have q6' := q6 (by omega)
    have w2 : wr (r5 + r6) = r5 + r6 := wr_id (by omega) (by omega)
    simp only [cond_false, Option.getD_some, w1, e5, obind_sm, e6, w2]
    exact ⟨_, _, _, rfl, la1, by omega, lb1, by omega, fa, fb, by omega, by omega, by omega, by omega⟩

/-- A path through two sequences of `n` and `m` elements: from the first pair to the last one by steps. -/
def stepOK (p q : Pair) : Prop := (q.i = p.i ∨ q.i = p.i + 1) ∧ (q.j = p.j ∨ q.j = p.j + 1) ∧ q ≠ p
def chain : List Pair → Prop
  | p :: q :: r => stepOK p q ∧ chain (q :: r)
  | _ => True
structure PathOK (l : List Pair) (n m : Int) : Prop where
  first : l.head? = some ⟨0, 0⟩
  last : l.getLast? = some ⟨n - 1, m - 1⟩
  steps : chain l
theorem pair_ne {a b c d : Int} (h : a ≠ c ∨ b ≠ d) : (⟨a, b⟩ : Pair) ≠ ⟨c, d⟩ := by
  intro e
  simp only [Pair.mk.injEq] at e
  rcases h with h | h
  · exact h e.1
  · exact h e.2
theorem chain_app {l : List Pair} {p q : Pair} (h : chain l) (hl : l.getLast? = some p) (hs : stepOK p q) : chain (l ++ [q]) := by
  induction l with
  | nil => simp at hl
  | cons a l ih =>
    cases l with
    | nil =>
      simp at hl
      subst hl
      exact ⟨hs, trivial⟩
    | cons b l => exact ⟨h.1, ih h.2 (by simpa [List.getLast?_cons_cons] using hl)⟩
theorem getLast_get {A : Type} {l : List A} {x : A} (h : l.getLast? = some x) (hl : l.length ≤ 1000000) : getI l (wr ((l.length : Int) - 1)) = some x := by
  have h1 : l ≠ [] := by rintro rfl; simp at h
  have hp : 0 < l.length := List.length_pos_iff.2 h1
  have w : wr ((l.length : Int) - 1) = ((l.length - 1 : Nat) : Int) := by rw [wr_id (by omega) (by omega)]; omega
  rw [w]
  apply getI_nat
  rw [List.getLast?_eq_getElem?] at h
  exact h
theorem path_ex (code : Sl UInt8) {n m : Int} (hn : 1 ≤ n) (hn2 : n ≤ 100) (hm : 1 ≤ m) (hm2 : m ≤ 100) : ∃ l, t_spec_A2Path code n m = some (some l) ∧ PathOK l n m ∧ l.length ≤ 200 := by
  have w1 : wr (n - 1) = n - 1 := wr_id (by omega) (by omega)
  have w2 : wr (m - 1) = m - 1 := wr_id (by omega) (by omega)
  unfold t_spec_A2Path
  -- the steps are counted by how far the path has come; every round goes on by one step at least
  have key : ∀ (k : Nat) (s : l00Src) (l : List Pair) (i j : Int), (n - 1 - i) + (m - 1 - j) ≤ k → 0 ≤ i → i ≤ n - 1 → 0 ≤ j → j ≤ m - 1 → l.head? = some ⟨0, 0⟩ → l.getLast? = some ⟨i, j⟩ → chain l → (l.length : Int) ≤ i + j + 1 → SK s (1000 - 4 * k) → k ≤ 200 →
      ∃ l', loopT (s0_spec_A2Path n m) (s.code, s.pos, s.seed, some l, i, j) = some (some l') ∧ PathOK l' n m ∧ l'.length ≤ 200 := by
    intro k
    induction k with
    | zero =>
      intro s l i j hk hi hi2 hj hj2 h1 h2 h3 h4 h5 h6
      have ei : i = n - 1 := by omega
      have ej : j = m - 1 := by omega
      subst ei ej
      have e : s0_spec_A2Path n m (s.code, s.pos, s.seed, some l, n - 1, m - 1) = some (.inr (some l)) := by
        unfold s0_spec_A2Path
        simp only [w1, w2, Int.lt_irrefl, decide_false, cond_false, obind_sm]
      exact ⟨l, loopT_end e, ⟨h1, h2, h3⟩, by omega⟩
    | succ k ih =>
      intro s l i j hk hi hi2 hj hj2 h1 h2 h3 h4 h5 h6
      by_cases hend : i = n - 1 ∧ j = m - 1
      · obtain ⟨ei, ej⟩ := hend
        subst ei ej
        have e : s0_spec_A2Path n m (s.code, s.pos, s.seed, some l, n - 1, m - 1) = some (.inr (some l)) := by
          unfold s0_spec_A2Path
          simp only [w1, w2, Int.lt_irrefl, decide_false, cond_false, obind_sm]
        exact ⟨l, loopT_end e, ⟨h1, h2, h3⟩, by omega⟩
      obtain ⟨r, s', er, k', p', q', _⟩ := dr_pick h5 (by omega) (n := 3) (by omega)
      have er' : t_spec_l00Src_pick ⟨s.code, s.pos, s.seed⟩ 3 = some (r, s') := er
      have a1 : wr (i + 1) = i + 1 := wr_id (by omega) (by omega)
      have a2 : wr (j + 1) = j + 1 := wr_id (by omega) (by omega)
      have gl := getLast_get h2 (by omega)
      have go : ∀ (i' j' : Int), i' ≤ n - 1 → j' ≤ m - 1 → stepOK ⟨i, j⟩ ⟨i', j'⟩ → ∃ l', loopT (s0_spec_A2Path n m) (s'.code, s'.pos, s'.seed, some (l ++ [⟨i', j'⟩]), i', j') = some (some l') ∧ PathOK l' n m ∧ l'.length ≤ 200 := by
        intro i' j' h7 h8 hs
        have hs' := hs
        obtain ⟨g1, g2, g3⟩ := hs
        simp only at g1 g2
        have : ¬ (i' = i ∧ j' = j) := fun ⟨e1, e2⟩ => g3 (by rw [e1, e2])
        refine ih s' (l ++ [⟨i', j'⟩]) i' j' (by omega) (by omega) h7 (by omega) h8 ?_ (by simp) (chain_app h3 h2 hs') (by simp; omega) (k'.mono (by omega)) (by omega)
        cases l with
        | nil => simp at h1
        | cons a l => simpa using h1
      have ap := fun x : Pair => appO_some (s := some l) (l := [x]) (by simp; omega)
      have tryit : ∀ (i' j' : Int), i' ≤ n - 1 → j' ≤ m - 1 → stepOK ⟨i, j⟩ ⟨i', j'⟩ → s0_spec_A2Path n m (s.code, s.pos, s.seed, some l, i, j) = some (.inl (s'.code, s'.pos, s'.seed, appS (some l) [⟨i', j'⟩], i', j')) → ∃ l', loopT (s0_spec_A2Path n m) (s.code, s.pos, s.seed, some l, i, j) = some (some l') ∧ PathOK l' n m ∧ l'.length ≤ 200 := by
        intro i' j' h7 h8 hs e
        rw [loopT_next e]
        exact go i' j' h7 h8 hs
      have ne1 : (⟨i, j⟩ : Pair) ≠ ⟨i + 1, j + 1⟩ := pair_ne (by omega)
      have ne2 : (⟨i, j⟩ : Pair) ≠ ⟨i + 1, j⟩ := pair_ne (by omega)
      have ne3 : (⟨i, j⟩ : Pair) ≠ ⟨i, j + 1⟩ := pair_ne (by omega)
      by_cases ci : i = n - 1
      · have cj : j ≠ m - 1 := fun h => hend ⟨ci, h⟩
        have cj2 : j < m - 1 := by omega
        refine tryit i (j + 1) (by omega) (by omega) ⟨.inl rfl, .inr rfl, pair_ne (by omega)⟩ ?_
        unfold s0_spec_A2Path
        subst ci
        by_cases r0 : r = 0 <;> simp [w1, w2, cj, cj2, er', a2, gl, ne3, ap, r0]
      · have ci2 : i < n - 1 := by omega
        by_cases cj : j = m - 1
        · refine tryit (i + 1) j (by omega) (by omega) ⟨.inr rfl, .inl rfl, pair_ne (by omega)⟩ ?_
          unfold s0_spec_A2Path
          subst cj
          by_cases r0 : r = 0 <;> by_cases c3 : i + 1 = n - 1 <;> simp [w1, w2, ci2, ci, er', a1, gl, ne2, ap, r0, c3]
        · have cj2 : j < m - 1 := by omega
          by_cases r1 : r = 1
          · refine tryit i (j + 1) (by omega) (by omega) ⟨.inl rfl, .inr rfl, pair_ne (by omega)⟩ ?_
            unfold s0_spec_A2Path
            simp [w1, w2, ci2, ci, cj, cj2, er', a1, a2, gl, ne3, ap, r1]
          · by_cases c4 : r = 0 ∧ i + 1 ≠ n - 1
            · refine tryit (i + 1) j (by omega) (by omega) ⟨.inr rfl, .inl rfl, pair_ne (by omega)⟩ ?_
              unfold s0_spec_A2Path
              simp [w1, w2, ci2, ci, cj, cj2, er', a1, a2, gl, ne2, ap, r1, c4]
            · refine tryit (i + 1) (j + 1) (by omega) (by omega) ⟨.inr rfl, .inr rfl, pair_ne (by omega)⟩ ?_
              unfold s0_spec_A2Path
              by_cases r0 : r = 0
              · have c5 : i + 1 = n - 1 := by
                  by_cases h : i + 1 = n - 1
                  · exact h
                  · exact absurd ⟨r0, h⟩ c4
                simp [w1, w2, ci2, ci, cj, cj2, er', a1, a2, gl, ne1, ap, r1, r0, c5]
              · simp [w1, w2, ci2, ci, cj, cj2, er', a1, a2, gl, ne1, ap, r1, r0]
  have h0 := key 200 ⟨code, 0, 0⟩ [⟨0, 0⟩] 0 0 (by omega) (by omega) (by omega) (by omega) (by omega) rfl rfl trivial (by simp) ⟨by simp, by simp⟩ (by omega)
  obtain ⟨l', e, h1, h2⟩ := h0
  simp only at e
  rw [e]
  exact ⟨l', rfl, h1, h2⟩

theorem wr_succ {k n : Nat} (h : k < n) (hn : n ≤ 4294967296) : wr ((k : Int) + 1) = ((k + 1 : Nat) : Int) := by
  rw [wr_id (by omega) (by omega)]
  omega
theorem get_lt {A : Type} {l : List A} {k : Nat} {a : A} (h : l[k]? = some a) : k < l.length := (List.getElem?_eq_some_iff.1 h).1
theorem cf_Feat {p : Feat → Option Bool} {f : Feat → Bool} (l : List Feat) (hl : l.length ≤ 4294967296) (hp : ∀ a ∈ l, p a = some (f a)) : t_slices_ContainsFunc_impl_Feat_impl_Feat p (some l) = some (l.any f) := by
  unfold t_slices_ContainsFunc_impl_Feat_impl_Feat t_slices_IndexFunc_impl_Feat_impl_Feat
  have h := loopT_first (step := s0_slices_IndexFunc_impl_Feat_impl_Feat p (some l)) l (fun k a => bif f a then some (k : Int) else none) (.inl ()) .inr
    (fun k a ha => by
      have hk := get_lt ha
      have c : (k : Int) < (l.length : Nat) := by omega
      have w := wr_succ hk hl
      unfold s0_slices_IndexFunc_impl_Feat_impl_Feat
      simp only [Option.getD_some, c, decide_true, cond_true, getI_nat ha, obind_sm, hp a (List.mem_of_getElem? ha), w]
      cases f a <;> rfl)
    (by
      unfold s0_slices_IndexFunc_impl_Feat_impl_Feat
      simp only [Option.getD_some, Int.lt_irrefl, decide_false, cond_false])
  have key : ∀ (l : List Feat) (k : Nat) (x : Option Int), firstL (fun (k : Nat) a => bif f a then some (k : Int) else none) l k = x → (x = none ∧ l.any f = false) ∨ ∃ r, x = some r ∧ 0 ≤ r ∧ l.any f = true := by
    intro l
    induction l with
    | nil => intro k x hx; exact .inl ⟨hx.symm, rfl⟩
    | cons a l ih =>
      intro k x hx
      unfold firstL at hx
      cases e : f a with
      | true =>
        rw [e] at hx
        exact .inr ⟨(k : Int), hx.symm, by omega, by simp [e]⟩
      | false =>
        rw [e] at hx
        rcases ih (k + 1) x hx with h | ⟨r, h1, h2, h3⟩
        · exact .inl ⟨h.1, by simp [e, h.2]⟩
        · exact .inr ⟨r, h1, h2, by simp [e, h3]⟩
  rcases key l 0 _ rfl with ⟨h1, h2⟩ | ⟨r, h1, h2, h3⟩
  · rw [h1] at h
    simp [h, h2]
  · rw [h1] at h
    simp [h, h2, h3]
theorem validFeat_ok {f : Feat} (h : FOK f) : t_impl_ValidFeat f = some true := by
  obtain ⟨h1, h2, h3, h4, h5, h6⟩ := h
  simp [t_impl_ValidFeat, within, h1, h2, h3, h4, h5, h6]
theorem validSeq_ok {l : List Feat} (h : ∀ f ∈ l, FOK f) (h1 : 1 ≤ l.length) (h2 : l.length ≤ 72) : t_impl_ValidSeq (some l) = some true := by
  have c := cf_Feat (p := t_impl_areFeats_1) (f := fun _ => false) l (by omega) (fun a ha => by simp [t_impl_areFeats_1, validFeat_ok (h a ha)])
  have e : l.any (fun _ => false) = false := by simp
  rw [e] at c
  have c1 : (1 : Int) ≤ (l.length : Nat) := by omega
  have c2 : ((l.length : Nat) : Int) ≤ 72 := by omega
  simp [t_impl_ValidSeq, t_impl_areFeats, c, c1, c2]

/-- Each pair of a path is in the table; its indices differ by the band at most. -/
theorem chain_get : ∀ {l : List Pair} {k : Nat} {p q : Pair}, chain l → l[k]? = some p → l[k + 1]? = some q → stepOK p q
  | a :: b :: r, 0, p, q, h, h1, h2 => by
    simp at h1 h2
    subst h1 h2
    exact h.1
  | a :: b :: r, k + 1, p, q, h, h1, h2 => chain_get (l := b :: r) h.2 (by simpa using h1) (by simpa using h2)
  | [a], 0, p, q, h, h1, h2 => by simp at h2
  | [a], k + 1, p, q, h, h1, h2 => by simp at h1
  | [], _, _, _, _, h1, _ => by simp at h1
theorem chain_mono : ∀ {l : List Pair}, chain l → ∀ (i : Nat) (d : Nat) {p q : Pair}, l[i]? = some p → l[i + d]? = some q → p.i ≤ q.i ∧ p.j ≤ q.j := by
  intro l h i d
  induction d with
  | zero =>
    intro p q h1 h2
    rw [Nat.add_zero, h1] at h2
    cases h2
    exact ⟨Int.le_refl _, Int.le_refl _⟩
  | succ d ih =>
    intro p q h1 h2
    have hlt := get_lt h2
    obtain ⟨m, hm⟩ : ∃ m, l[i + d]? = some m := ⟨l[i + d], List.getElem?_eq_getElem (by omega)⟩
    have h3 := ih h1 hm
    have h4 := chain_get h hm (by rw [Nat.add_assoc]; exact h2)
    obtain ⟨g1, g2, _⟩ := h4
    omega
theorem path_in {l : List Pair} {n m : Int} (P : PathOK l n m) {k : Nat} {p : Pair} (h : l[k]? = some p) : 0 ≤ p.i ∧ p.i ≤ n - 1 ∧ 0 ≤ p.j ∧ p.j ≤ m - 1 := by
  have hk := get_lt h
  have h0 : l[0]? = some ⟨0, 0⟩ := by rw [← P.first]; cases l <;> rfl
  have h1 : l[l.length - 1]? = some ⟨n - 1, m - 1⟩ := by rw [← P.last, List.getLast?_eq_getElem?]
  have a := chain_mono P.steps 0 k h0 (by simpa using h)
  have b := chain_mono P.steps k (l.length - 1 - k) h (by rw [← h1]; congr 1; omega)
  simp only at a b
  omega
theorem validPath_ok {l : List Pair} {n m : Int} (P : PathOK l n m) (hl : l.length ≤ 100000) (hn : n ≤ 73) (hm : m ≤ 73) : t_impl_ValidPath (some l) n m 72 = some true := by
  have hne : l ≠ [] := by
    rintro rfl
    have := P.first
    simp at this
  have hp : 0 < l.length := List.length_pos_iff.2 hne
  have h0 : l[0]? = some ⟨0, 0⟩ := by rw [← P.first]; cases l <;> rfl
  have g0 : getI l 0 = some ⟨0, 0⟩ := getI_nat (m := 0) h0
  have gl := getLast_get P.last (by omega)
  have hin := path_in P h0
  simp only at hin
  have w1 : wr (n - 1) = n - 1 := wr_id (by have := path_in P h0; omega) (by omega)
  have w2 : wr (m - 1) = m - 1 := wr_id (by have := path_in P h0; omega) (by omega)
  have c0 : ¬ ((l.length : Nat) : Int) = 0 := by omega
  have lp := loopT_first (step := s0_impl_ValidPath (some l) 72) l (fun _ _ => (none : Option Bool)) (.inl ()) .inr
    (fun k a ha => by
      have hk := get_lt ha
      have c : (k : Int) < (l.length : Nat) := by omega
      have w := wr_succ hk (by omega)
      have ia := path_in P ha
      have b1 : wr (a.i - a.j) = a.i - a.j := wr_id (by omega) (by omega)
      have b2 : wr (0 - 72 : Int) = -72 := rfl
      have b3 : within (a.i - a.j) (-72) 72 = true := by simp [within]; omega
      unfold s0_impl_ValidPath
      by_cases k0 : k = 0
      · subst k0
        have c' : (0 : Int) < (l.length : Nat) := by omega
        rw [h0] at ha
        cases ha
        have b4 : within (wr 0) (wr (-72)) 72 = true := rfl
        have w' : wr (1 : Int) = 1 := rfl
        simp [hp, g0, b4, w']
      · have c3 : (0 : Int) < (k : Int) := by omega
        have w3 : wr ((k : Int) - 1) = ((k - 1 : Nat) : Int) := by rw [wr_id (by omega) (by omega)]; omega
        obtain ⟨q, hq⟩ : ∃ q, l[k - 1]? = some q := ⟨l[k - 1], List.getElem?_eq_getElem (by omega)⟩
        have st := chain_get P.steps hq (by rw [Nat.sub_add_cancel (by omega)]; exact ha)
        obtain ⟨s1, s2, s3⟩ := st
        have iq := path_in P hq
        have d1 : wr (a.i - q.i) = a.i - q.i := wr_id (by omega) (by omega)
        have d2 : wr (a.j - q.j) = a.j - q.j := wr_id (by omega) (by omega)
        have d3 : wr (a.i - q.i + (a.j - q.j)) = a.i - q.i + (a.j - q.j) := wr_id (by omega) (by omega)
        have d4 : within (a.i - q.i) 0 1 = true := by simp [within]; omega
        have d5 : within (a.j - q.j) 0 1 = true := by simp [within]; omega
        have d6 : ¬ a.i - q.i + (a.j - q.j) = 0 := by
          intro h
          apply s3
          obtain ⟨a1, a2⟩ := a
          obtain ⟨q1, q2⟩ := q
          simp only [Pair.mk.injEq] at *
          omega
        simp only [Option.getD_some, c, c3, decide_true, cond_true, getI_nat ha, obind_sm, w3, getI_nat hq, d1, d2, d3, d4, d5, d6, decide_false, Bool.not_true, cond_false, b1, b2, b3, w])
    (by
      unfold s0_impl_ValidPath
      simp only [Option.getD_some, Int.lt_irrefl, decide_false, cond_false])
  rw [firstL_none (fun _ _ _ => rfl)] at lp
  unfold t_impl_ValidPath
  simp [hne, g0, gl, w1, w2, lp]
theorem pathable_ok {a b : List Feat} {band : Int} (T : Two a b band) {l : List Pair} (P : PathOK l (a.length : Nat) (b.length : Nat)) (hl : l.length ≤ 100000) : t_impl_pathable (some a) (some b) (some l) = some 0 := by
  have h1 := validSeq_ok T.fa T.a1 (by have := T.a2; omega)
  have h2 := validSeq_ok T.fb T.b1 (by have := T.b2; omega)
  have h3 := validPath_ok P hl (by have := T.a2; omega) (by have := T.b2; omega)
  simp [t_impl_pathable, h1, h2, h3]

/-- The nearest quotient lies between whole bounds. -/
theorem near_ok {n d : Int} (hn : 0 ≤ n) (hn2 : n ≤ 1000000000) (hd : 0 < d) (hd2 : d ≤ 1000000000) : ∃ z, t_impl_nearestDiv n d = some z ∧ 0 ≤ z ∧ (∀ lo, lo * d ≤ n → lo ≤ z) ∧ (∀ hi, n ≤ hi * d → z ≤ hi) := by
  have hne : ¬ d = 0 := by omega
  have e1 : n.tdiv d = n / d := Int.tdiv_eq_ediv_of_nonneg hn
  have e2 : n.tmod d = n % d := Int.tmod_eq_emod_of_nonneg hn
  have m0 := Int.emod_nonneg n hne
  have m1 := Int.emod_lt_of_pos n hd
  have md := Int.emod_add_mul_ediv n d
  have q0 : 0 ≤ n / d := Int.ediv_nonneg hn (by omega)
  have q1 : n / d ≤ n := Int.ediv_le_self d hn
  generalize hq : n / d = q at *
  generalize hr : n % d = r at *
  have w1 : wr q = q := wr_id (by omega) (by omega)
  have ec : q * d = d * q := Int.mul_comm q d
  have w2 : wr (q * d) = q * d := wr_id (by rw [ec]; omega) (by rw [ec]; omega)
  have w3 : wr (n - q * d) = r := by rw [wr_id (by rw [ec]; omega) (by rw [ec]; omega), ec]; omega
  have w4 : wr (d - r) = d - r := wr_id (by omega) (by omega)
  have w5 : wr (q + 1) = q + 1 := wr_id (by omega) (by omega)
  have f : t_impl_floorDiv n d = some q := by
    have c : ¬ r < 0 := by omega
    simp [t_impl_floorDiv, quoI, remI, hne, e1, e2, w1, c]
  have lo1 : ∀ lo, lo * d ≤ n → lo ≤ q := fun lo h => by
    rw [← hq]
    exact Int.le_ediv_of_mul_le hd h
  unfold t_impl_nearestDiv
  simp only [f, obind_sm, w2, w3, w4, w5]
  by_cases c : d - r ≤ r
  · simp only [c, decide_true, cond_true]
    refine ⟨_, rfl, by omega, fun lo h => by have := lo1 lo h; omega, fun hi h => ?_⟩
    by_cases h2 : q + 1 ≤ hi
    · exact h2
    · exfalso
      have h3 : hi ≤ q := by omega
      have h4 : hi * d ≤ q * d := Int.mul_le_mul_of_nonneg_right h3 (by omega)
      omega
  · simp only [c, decide_false, cond_false]
    refine ⟨_, rfl, q0, fun lo h => lo1 lo h, fun hi h => ?_⟩
    by_cases h2 : q ≤ hi
    · exact h2
    · exfalso
      have h3 : hi ≤ q - 1 := by omega
      have h4 : hi * d ≤ (q - 1) * d := Int.mul_le_mul_of_nonneg_right h3 (by omega)
      have h5 : (q - 1) * d = q * d - d := by rw [Int.sub_mul, Int.one_mul]
      omega

theorem mr_get {A : Type} {F : Nat → A} {n m : Nat} (h : m < n) : getI ((List.range n).map F) (m : Int) = some (F m) := getI_nat (by simp [h])
theorem mr_set {A : Type} {F : Nat → A} {n m : Nat} {v : A} : ((List.range n).map F).set m v = (List.range n).map fun i => if i = m then v else F i := by
  apply List.ext_getElem?
  intro i
  by_cases hi : i < n
  · by_cases e : i = m
    · subst e
      simp [hi]
    · rw [List.getElem?_set_ne (fun h => e h.symm)]
      simp [hi, e]
  · simp [hi]
def bAt (b : List Feat) (j : Int) : Feat := b.getD j.toNat ⟨0, 0, 0⟩
def accX (b : List Feat) (i : Nat) : List Pair → Int
  | [] => 0
  | p :: r => (if p.i = (i : Int) then (bAt b p.j).x else 0) + accX b i r
def accY (b : List Feat) (i : Nat) : List Pair → Int
  | [] => 0
  | p :: r => (if p.i = (i : Int) then (bAt b p.j).y else 0) + accY b i r
def accK (i : Nat) : List Pair → Int
  | [] => 0
  | p :: r => (if p.i = (i : Int) then 1 else 0) + accK i r
theorem accX_app (b : List Feat) (i : Nat) : ∀ (l r : List Pair), accX b i (l ++ r) = accX b i l + accX b i r
  | [], r => by simp [accX]
  | p :: l, r => by simp only [List.cons_append, accX, accX_app b i l r]; omega
theorem accY_app (b : List Feat) (i : Nat) : ∀ (l r : List Pair), accY b i (l ++ r) = accY b i l + accY b i r
  | [], r => by simp [accY]
  | p :: l, r => by simp only [List.cons_append, accY, accY_app b i l r]; omega
theorem accK_app (i : Nat) : ∀ (l r : List Pair), accK i (l ++ r) = accK i l + accK i r
  | [], r => by simp [accK]
  | p :: l, r => by simp only [List.cons_append, accK, accK_app i l r]; omega
theorem accK_le (i : Nat) : ∀ (l : List Pair), 0 ≤ accK i l ∧ accK i l ≤ l.length
  | [] => by simp [accK]
  | p :: l => by
    have := accK_le i l
    simp only [accK, List.length_cons]
    split <;> omega
theorem accX_le {b : List Feat} (hb : ∀ f ∈ b, FOK f) (i : Nat) {lo hi : Int} : ∀ (l : List Pair), (∀ p ∈ l, p.i = (i : Int) → lo ≤ (bAt b p.j).x ∧ (bAt b p.j).x ≤ hi) → lo * accK i l ≤ accX b i l ∧ accX b i l ≤ hi * accK i l
  | [], _ => by simp [accX, accK]
  | p :: l, h => by
    have ih := accX_le hb i l fun q hq => h q (List.mem_cons_of_mem _ hq)
    simp only [accX, accK]
    split
    · rename_i e
      have := h p (by simp) e
      rw [Int.mul_add, Int.mul_add, Int.mul_one, Int.mul_one]
      omega
    · simpa using ih
theorem accY_le {b : List Feat} (hb : ∀ f ∈ b, FOK f) (i : Nat) {lo hi : Int} : ∀ (l : List Pair), (∀ p ∈ l, p.i = (i : Int) → lo ≤ (bAt b p.j).y ∧ (bAt b p.j).y ≤ hi) → lo * accK i l ≤ accY b i l ∧ accY b i l ≤ hi * accK i l
  | [], _ => by simp [accY, accK]
  | p :: l, h => by
    have ih := accY_le hb i l fun q hq => h q (List.mem_cons_of_mem _ hq)
    simp only [accY, accK]
    split
    · rename_i e
      have := h p (by simp) e
      rw [Int.mul_add, Int.mul_add, Int.mul_one, Int.mul_one]
      omega
    · simpa using ih
theorem bAt_ok {b : List Feat} (hb : ∀ f ∈ b, FOK f) (j : Int) : 0 ≤ (bAt b j).x ∧ (bAt b j).x ≤ 255 ∧ 0 ≤ (bAt b j).y ∧ (bAt b j).y ≤ 255 := by
  unfold bAt
  rw [List.getD_eq_getElem?_getD]
  cases e : b[j.toNat]? with
  | none => simp
  | some f =>
    have := hb f (List.mem_of_getElem? e)
    obtain ⟨h1, h2, h3, h4, _, _⟩ := this
    simp only [Option.getD_some]
    omega
theorem accX_big {b : List Feat} (hb : ∀ f ∈ b, FOK f) (i : Nat) (l : List Pair) : 0 ≤ accX b i l ∧ accX b i l ≤ 255 * l.length := by
  have h := accX_le hb i (lo := 0) (hi := 255) l fun p _ _ => ⟨(bAt_ok hb p.j).1, (bAt_ok hb p.j).2.1⟩
  have := accK_le i l
  omega
theorem accY_big {b : List Feat} (hb : ∀ f ∈ b, FOK f) (i : Nat) (l : List Pair) : 0 ≤ accY b i l ∧ accY b i l ≤ 255 * l.length := by
  have h := accY_le hb i (lo := 0) (hi := 255) l fun p _ _ => ⟨(bAt_ok hb p.j).2.2.1, (bAt_ok hb p.j).2.2.2⟩
  have := accK_le i l
  omega
/-- Every row is met. -/
theorem accK_pos {l : List Pair} {n m : Int} (P : PathOK l n m) {i : Nat} (hi : (i : Int) ≤ n - 1) : 1 ≤ accK i l := by
  have key : ∀ (l : List Pair) (a : Pair), l.head? = some a → chain l → a.i ≤ i → (∃ z, l.getLast? = some z ∧ (i : Int) ≤ z.i) → 1 ≤ accK i l := by
    intro l
    induction l with
    | nil => intro a h; simp at h
    | cons p l ih =>
      intro a h1 h2 h3 h4
      simp at h1
      subst h1
      simp only [accK]
      have := accK_le i l
      by_cases e : p.i = (i : Int)
      · rw [if_pos e]; omega
      · rw [if_neg e]
        cases l with
        | nil =>
          obtain ⟨z, h5, h6⟩ := h4
          simp at h5
          subst h5
          omega
        | cons q l =>
          obtain ⟨z, h5, h6⟩ := h4
          have h7 := h2.1.1
          have := ih q rfl h2.2 (by omega) ⟨z, by simpa [List.getLast?_cons_cons] using h5, h6⟩
          omega
  exact key l ⟨0, 0⟩ P.first P.steps (by simp only; omega) ⟨_, P.last, hi⟩

def sumsL (b : List Feat) (n : Nat) (l : List Pair) : List Feat := (List.range n).map fun i => ⟨accX b i l, accY b i l, 0⟩
def cntsL (n : Nat) (l : List Pair) : List Int := (List.range n).map fun i => accK i l
theorem getI_bAt {b : List Feat} {j : Int} (h0 : 0 ≤ j) (h1 : j < (b.length : Nat)) : getI b j = some (bAt b j) := by
  obtain ⟨a, e1, e2⟩ := getI_in h0 h1
  rw [e1]
  unfold bAt
  rw [List.getD_eq_getElem?_getD, e2]
  rfl
theorem blend1 {b : List Feat} (hb : ∀ f ∈ b, FOK f) {path : List Pair} {n m : Nat} (P : PathOK path (n : Int) (m : Int)) (hm : m = b.length) (hl : path.length ≤ 100000) :
    loopT (s0_impl_BlendFeats (some b) (some path)) (some (sumsL b n []), some (cntsL n []), 0) = some (some (sumsL b n path), some (cntsL n path)) := by
  have key : ∀ (suf pre : List Pair), path = pre ++ suf → loopT (s0_impl_BlendFeats (some b) (some path)) (some (sumsL b n pre), some (cntsL n pre), (pre.length : Nat)) = some (some (sumsL b n path), some (cntsL n path)) := by
    intro suf
    induction suf with
    | nil =>
      intro pre h
      simp at h
      subst h
      apply loopT_end
      unfold s0_impl_BlendFeats
      simp only [Option.getD_some, Int.lt_irrefl, decide_false, cond_false]
    | cons p suf ih =>
      intro pre h
      have hp : path[pre.length]? = some p := by rw [h]; simp
      have hlt := get_lt hp
      have hin := path_in P hp
      obtain ⟨i, hi⟩ := Int.eq_ofNat_of_zero_le hin.1
      have hin' : i < n := by omega
      have c : ((pre.length : Nat) : Int) < ((path.length : Nat) : Int) := by omega
      have gb : getI b p.j = some (bAt b p.j) := getI_bAt hin.2.2.1 (by omega)
      have kx := accX_big hb i pre
      have ky := accY_big hb i pre
      have kk := accK_le i pre
      have bb := bAt_ok hb p.j
      have hpl : pre.length ≤ 100000 := by omega
      have w1 : wr (accX b i pre + (bAt b p.j).x) = accX b i pre + (bAt b p.j).x := wr_id (by omega) (by omega)
      have w2 : wr (accY b i pre + (bAt b p.j).y) = accY b i pre + (bAt b p.j).y := wr_id (by omega) (by omega)
      have w3 : wr (accK i pre + 1) = accK i pre + 1 := wr_id (by omega) (by omega)
      have w4 := wr_succ hlt (by omega)
      have e : s0_impl_BlendFeats (some b) (some path) (some (sumsL b n pre), some (cntsL n pre), (pre.length : Nat)) = some (.inl (some (sumsL b n (pre ++ [p])), some (cntsL n (pre ++ [p])), ((pre.length + 1 : Nat) : Int))) := by
        unfold s0_impl_BlendFeats
        simp only [Option.getD_some, c, decide_true, cond_true, getI_nat hp, obind_sm, hi, sumsL, cntsL, mr_get hin', gb, setS, Option.map_some, Int.toNat_natCast, mr_set, if_true, w1, w2, w3, w4]
        have e1 : ((List.range n).map fun j => if j = i then (⟨accX b i pre + (bAt b p.j).x, accY b i pre + (bAt b p.j).y, 0⟩ : Feat) else if j = i then ⟨accX b i pre + (bAt b p.j).x, accY b i pre, 0⟩ else ⟨accX b j pre, accY b j pre, 0⟩) = (List.range n).map fun j => (⟨accX b j (pre ++ [p]), accY b j (pre ++ [p]), 0⟩ : Feat) := by
          apply List.map_congr_left
          intro j hj
          rw [accX_app, accY_app]
          simp only [accX, accY, hi]
          by_cases ej : j = i
          · subst ej
            simp
          · have ej2 : ¬ (i : Int) = (j : Int) := by omega
            simp [ej, ej2]
        have e2 : ((List.range n).map fun j => if j = i then accK i pre + 1 else accK j pre) = (List.range n).map fun j => accK j (pre ++ [p]) := by
          apply List.map_congr_left
          intro j hj
          rw [accK_app]
          simp only [accK, hi]
          by_cases ej : j = i
          · subst ej
            simp
          · have ej2 : ¬ (i : Int) = (j : Int) := by omega
            simp [ej, ej2]
        rw [e1, e2]
      rw [loopT_next e]
      have := ih (pre ++ [p]) (by simp [h])
      simpa using this
  exact key path [] rfl
/-- The means of the elements of `a` and of those that the path matches with them. -/
structure Blend (a b : List Feat) (path : List Pair) (i : Nat) (f g : Feat) : Prop where
  d : g.d = f.d
  x : ∀ lo hi, lo ≤ f.x → f.x ≤ hi → (∀ p ∈ path, p.i = (i : Int) → lo ≤ (bAt b p.j).x ∧ (bAt b p.j).x ≤ hi) → lo ≤ g.x ∧ g.x ≤ hi
  y : ∀ lo hi, lo ≤ f.y → f.y ≤ hi → (∀ p ∈ path, p.i = (i : Int) → lo ≤ (bAt b p.j).y ∧ (bAt b p.j).y ≤ hi) → lo ≤ g.y ∧ g.y ≤ hi
theorem blend_ok {a b : List Feat} {band : Int} (T : Two a b band) {path : List Pair} (P : PathOK path (a.length : Nat) (b.length : Nat)) (hl : path.length ≤ 1000) :
    ∃ l, t_impl_BlendFeats (some a) (some b) (some path) = some (some l, 0) ∧ l.length = a.length ∧ ∀ (i : Nat) f g, a[i]? = some f → l[i]? = some g → Blend a b path i f g := by
  have a1 := T.a1
  have a2 := T.a2
  have mk : ∀ {A : Type} (v : A), makeO v ((a.length : Nat) : Int) = some (List.replicate a.length v) := fun v => by
    unfold makeO
    rw [if_pos ⟨by omega, by omega⟩]
    simp
  have r1 : List.replicate a.length (⟨0, 0, 0⟩ : Feat) = sumsL b a.length [] := by simp [sumsL, accX, accY, List.map_const']
  have r2 : List.replicate a.length (0 : Int) = cntsL a.length [] := by simp [cntsL, accK, List.map_const']
  unfold t_impl_BlendFeats
  simp only [pathable_ok T P (by omega), obind_sm, decide_true, Bool.not_true, cond_false, Option.getD_some, mk, r1, r2, blend1 T.fb P rfl (by omega)]
  -- the second loop
  have key : ∀ (suf pre : List Feat) (w : Sl Feat), a = pre ++ suf → (w.getD []).length = pre.length → (w = none → pre = []) → (∀ (i : Nat) f g, pre[i]? = some f → (w.getD [])[i]? = some g → Blend a b path i f g) →
      ∃ l, loopT (s1_impl_BlendFeats (some a) (some (sumsL b a.length path)) (some (cntsL a.length path))) (w, (pre.length : Nat)) = some (some l) ∧ l.length = a.length ∧ ∀ (i : Nat) f g, a[i]? = some f → l[i]? = some g → Blend a b path i f g := by
    intro suf
    induction suf with
    | nil =>
      intro pre w h h1 h2 h3
      simp at h
      subst h
      have e : s1_impl_BlendFeats (some a) (some (sumsL b a.length path)) (some (cntsL a.length path)) (w, (a.length : Nat)) = some (.inr w) := by
        unfold s1_impl_BlendFeats
        simp only [Option.getD_some, Int.lt_irrefl, decide_false, cond_false]
      rw [loopT_end e]
      cases w with
      | none =>
        have := h2 rfl
        rw [this] at a1
        simp at a1
      | some l => exact ⟨l, rfl, by simpa using h1, fun i f g => h3 i f g⟩
    | cons f suf ih =>
      intro pre w h h1 h2 h3
      have hf : a[pre.length]? = some f := by rw [h]; simp
      have hlt := get_lt hf
      have ff := T.fa f (List.mem_of_getElem? hf)
      have c : ((pre.length : Nat) : Int) < ((a.length : Nat) : Int) := by omega
      have k1 := accK_pos P (i := pre.length) (by omega)
      have k2 := accK_le pre.length path
      have kx := accX_big T.fb pre.length path
      have ky := accY_big T.fb pre.length path
      have hfx := ff.x0
      have hfx1 := ff.x1
      have hfy := ff.y0
      have hfy1 := ff.y1
      have px0 : 0 ≤ accK pre.length path * f.x := Int.mul_nonneg (by omega) hfx
      have px1 : accK pre.length path * f.x ≤ 1000 * 255 := Int.mul_le_mul (by omega) hfx1 hfx (by omega)
      have py0 : 0 ≤ accK pre.length path * f.y := Int.mul_nonneg (by omega) hfy
      have py1 : accK pre.length path * f.y ≤ 1000 * 255 := Int.mul_le_mul (by omega) hfy1 hfy (by omega)
      have w1 : wr (accK pre.length path * f.x) = accK pre.length path * f.x := wr_id (by omega) (by omega)
      have w2 : wr (accK pre.length path * f.y) = accK pre.length path * f.y := wr_id (by omega) (by omega)
      have w3 : wr (accX b pre.length path + accK pre.length path * f.x) = accX b pre.length path + accK pre.length path * f.x := wr_id (by omega) (by omega)
      have w4 : wr (accY b pre.length path + accK pre.length path * f.y) = accY b pre.length path + accK pre.length path * f.y := wr_id (by omega) (by omega)
      have w5 : wr (2 * accK pre.length path) = 2 * accK pre.length path := wr_id (by omega) (by omega)
      have w6 := wr_succ hlt (by omega)
      obtain ⟨zx, ex, zx0, xlo, xhi⟩ := near_ok (n := accX b pre.length path + accK pre.length path * f.x) (d := 2 * accK pre.length path) (by omega) (by omega) (by omega) (by omega)
      obtain ⟨zy, ey, zy0, ylo, yhi⟩ := near_ok (n := accY b pre.length path + accK pre.length path * f.y) (d := 2 * accK pre.length path) (by omega) (by omega) (by omega) (by omega)
      have ap := appO_some (s := w) (l := [(⟨zx, zy, f.d⟩ : Feat)]) (by simp; omega)
      have e : s1_impl_BlendFeats (some a) (some (sumsL b a.length path)) (some (cntsL a.length path)) (w, (pre.length : Nat)) = some (.inl (appS w [(⟨zx, zy, f.d⟩ : Feat)], ((pre.length + 1 : Nat) : Int))) := by
        unfold s1_impl_BlendFeats
        simp only [Option.getD_some, c, decide_true, cond_true, getI_nat hf, obind_sm, sumsL, cntsL, mr_get hlt, w1, w2, w3, w4, w5, ex, ey, ap, w6]
      rw [loopT_next e]
      have bl : Blend a b path pre.length f ⟨zx, zy, f.d⟩ := by
        refine ⟨rfl, fun lo hi h4 h5 h6 => ?_, fun lo hi h4 h5 h6 => ?_⟩
        · have := accX_le T.fb pre.length path h6
          have q1 : lo * accK pre.length path ≤ accK pre.length path * f.x := by rw [Int.mul_comm]; exact Int.mul_le_mul_of_nonneg_left h4 (by omega)
          have q2 : accK pre.length path * f.x ≤ hi * accK pre.length path := by rw [Int.mul_comm hi]; exact Int.mul_le_mul_of_nonneg_left h5 (by omega)
          have q3 : ∀ z : Int, z * (2 * accK pre.length path) = z * accK pre.length path + z * accK pre.length path := fun z => by rw [← Int.mul_add]; congr 1; omega
          exact ⟨xlo lo (by rw [q3]; omega), xhi hi (by rw [q3]; omega)⟩
        · have := accY_le T.fb pre.length path h6
          have q1 : lo * accK pre.length path ≤ accK pre.length path * f.y := by rw [Int.mul_comm]; exact Int.mul_le_mul_of_nonneg_left h4 (by omega)
          have q2 : accK pre.length path * f.y ≤ hi * accK pre.length path := by rw [Int.mul_comm hi]; exact Int.mul_le_mul_of_nonneg_left h5 (by omega)
          have q3 : ∀ z : Int, z * (2 * accK pre.length path) = z * accK pre.length path + z * accK pre.length path := fun z => by rw [← Int.mul_add]; congr 1; omega
          exact ⟨ylo lo (by rw [q3]; omega), yhi hi (by rw [q3]; omega)⟩
      have := ih (pre ++ [f]) (appS w [⟨zx, zy, f.d⟩]) (by simp [h]) (by rw [appS_getD]; simp [h1]) (fun h => by cases w <;> simp [appS] at h) (fun i f' g h4 h5 => by
        rw [appS_getD] at h5
        by_cases hi : i < pre.length
        · rw [List.getElem?_append_left hi] at h4
          rw [List.getElem?_append_left (by omega)] at h5
          exact h3 i f' g h4 h5
        · have hi2 : i = pre.length := by
            have := get_lt h4
            simp at this
            omega
          subst hi2
          rw [List.getElem?_append_right (by omega)] at h4 h5
          simp [h1] at h4 h5
          subst h4 h5
          exact bl)
      simpa using this
  obtain ⟨l, e1, e2, e3⟩ := key a [] none rfl rfl (fun _ => rfl) (fun i f g h => by simp at h)
  simp only [List.length_nil, Int.ofNat_zero] at e1
  have e1' : loopT (s1_impl_BlendFeats (some a) (some (sumsL b a.length path)) (some (cntsL a.length path))) (none, 0) = some (some l) := e1
  rw [e1']
  exact ⟨l, rfl, e2, e3⟩

theorem chain_diag : ∀ (l : List Pair), (∀ k p q, l[k]? = some p → l[k + 1]? = some q → stepOK p q) → chain l
  | [], _ => trivial
  | [_], _ => trivial
  | a :: b :: r, h => ⟨h 0 a b rfl rfl, chain_diag (b :: r) fun k p q h1 h2 => h (k + 1) p q (by simpa using h1) (by simpa using h2)⟩
def diag (n : Nat) : List Pair := (List.range n).map fun (k : Nat) => (⟨(k : Int), (k : Int)⟩ : Pair)
theorem diag_path {n : Nat} (h : 1 ≤ n) : PathOK (diag n) (n : Int) (n : Int) := by
  refine ⟨?_, ?_, chain_diag _ fun k p q h1 h2 => ?_⟩
  · cases n with
    | zero => omega
    | succ n => simp [diag, List.range_succ_eq_map]
  · rw [List.getLast?_eq_getElem?]
    have : n - 1 < n := by omega
    simp [diag, this]
    omega
  · have k1 := get_lt h2
    simp only [diag, List.length_map, List.length_range] at k1
    have k0 : k < n := by omega
    simp [diag, k0] at h1
    simp [diag, k1] at h2
    subst h1 h2
    exact ⟨.inr rfl, .inr rfl, pair_ne (by omega)⟩
theorem own_ok (c : (Sl Feat) × (Sl Feat) × Int) {a : List Feat} (hc : c.1 = some a) (ha : a.length ≤ 1000) : loopT (s0_laws_FnBlends c) (some [], 0) = some (some (diag a.length)) := by
  have h := loopT_at (step := s0_laws_FnBlends c) a.length (fun k => (some (diag k), ((k : Nat) : Int))) (some (diag a.length))
    (fun k hk => by
      have c1 : (k : Int) < ((a.length : Nat) : Int) := by omega
      have w := wr_succ hk (by omega)
      have ap := appO_some (s := some (diag k)) (l := [(⟨(k : Int), (k : Int)⟩ : Pair)]) (by simp [diag]; omega)
      have e : appS (some (diag k)) [(⟨(k : Int), (k : Int)⟩ : Pair)] = some (diag (k + 1)) := by simp [appS, diag, List.range_succ]
      unfold s0_laws_FnBlends
      simp only [hc, Option.getD_some, c1, decide_true, cond_true, ap, obind_sm, e, w])
    (by
      unfold s0_laws_FnBlends
      simp only [hc, Option.getD_some, Int.lt_irrefl, decide_false, cond_false]) 0 (by omega)
  exact h
theorem same_ok {a b : List Feat} (h : a = b) (hl : a.length ≤ 100000) : t_spec_SameFeats (some a) (some b) = some true := by
  subst h
  have lp := loopT_first (step := s0_spec_l08Same (some a) (some a)) a (fun _ _ => (none : Option Bool)) (.inl ()) .inr
    (fun k x ha => by
      have hk := get_lt ha
      have c : (k : Int) < (a.length : Nat) := by omega
      have w := wr_succ hk (by omega)
      unfold s0_spec_l08Same
      simp only [Option.getD_some, c, decide_true, cond_true, getI_nat ha, obind_sm, Bool.not_true, cond_false, w])
    (by
      unfold s0_spec_l08Same
      simp only [Option.getD_some, Int.lt_irrefl, decide_false, cond_false])
  rw [firstL_none (fun _ _ _ => rfl)] at lp
  simp [t_spec_SameFeats, t_spec_l08Same, lp]
theorem min_max_loop (c : (Sl Feat) × (Sl Feat) × Int) (pth : Sl Pair) (i : Nat) {b : List Feat} {path : List Pair} {n : Int} (hb : c.2.1 = some b) (hp : pth = some path) (P : PathOK path n (b.length : Nat)) (hl : path.length ≤ 100000) (x : Int) :
    ∃ lo hi, loopT (s2_laws_FnBlends c pth (i : Int)) (x, x, 0) = some (lo, hi) ∧ lo ≤ x ∧ x ≤ hi ∧ ∀ p ∈ path, p.i = (i : Int) → lo ≤ (bAt b p.j).x ∧ (bAt b p.j).x ≤ hi := by
  subst hp
  have key : ∀ (suf pre : List Pair) (lo hi : Int), path = pre ++ suf → lo ≤ x → x ≤ hi → (∀ p ∈ pre, p.i = (i : Int) → lo ≤ (bAt b p.j).x ∧ (bAt b p.j).x ≤ hi) →
      ∃ lo' hi', loopT (s2_laws_FnBlends c (some path) (i : Int)) (lo, hi, ((pre.length : Nat) : Int)) = some (lo', hi') ∧ lo' ≤ x ∧ x ≤ hi' ∧ ∀ p ∈ path, p.i = (i : Int) → lo' ≤ (bAt b p.j).x ∧ (bAt b p.j).x ≤ hi' := by
    intro suf
    induction suf with
    | nil =>
      intro pre lo hi h h1 h2 h3
      simp at h
      subst h
      have e : s2_laws_FnBlends c (some path) (i : Int) (lo, hi, ((path.length : Nat) : Int)) = some (.inr (lo, hi)) := by
        unfold s2_laws_FnBlends
        simp only [Option.getD_some, Int.lt_irrefl, decide_false, cond_false]
      exact ⟨lo, hi, loopT_end e, h1, h2, h3⟩
    | cons p suf ih =>
      intro pre lo hi h h1 h2 h3
      have hp : path[pre.length]? = some p := by rw [h]; simp
      have hlt := get_lt hp
      have hin := path_in P hp
      have cc : ((pre.length : Nat) : Int) < ((path.length : Nat) : Int) := by omega
      have w := wr_succ hlt (by omega)
      have gb : getI b p.j = some (bAt b p.j) := getI_bAt hin.2.2.1 (by omega)
      have go : ∀ lo' hi' : Int, lo' ≤ lo → hi ≤ hi' → (p.i = (i : Int) → lo' ≤ (bAt b p.j).x ∧ (bAt b p.j).x ≤ hi') → s2_laws_FnBlends c (some path) (i : Int) (lo, hi, ((pre.length : Nat) : Int)) = some (.inl (lo', hi', ((pre.length + 1 : Nat) : Int))) →
          ∃ lo' hi', loopT (s2_laws_FnBlends c (some path) (i : Int)) (lo, hi, ((pre.length : Nat) : Int)) = some (lo', hi') ∧ lo' ≤ x ∧ x ≤ hi' ∧ ∀ p ∈ path, p.i = (i : Int) → lo' ≤ (bAt b p.j).x ∧ (bAt b p.j).x ≤ hi' := by
        intro lo' hi' g1 g2 g3 e
        rw [loopT_next e]
        have := ih (pre ++ [p]) lo' hi' (by simp [h]) (by omega) (by omega) (fun q hq hqi => by
          rcases List.mem_append.1 hq with hq | hq
          · have := h3 q hq hqi
            omega
          · have : q = p := by simpa using hq
            subst this
            exact g3 hqi)
        simpa using this
      by_cases ci : p.i = (i : Int)
      · by_cases c1 : (bAt b p.j).x < lo
        · by_cases c2 : hi < (bAt b p.j).x
          · omega
          · refine go (bAt b p.j).x hi (by omega) (by omega) (fun _ => by omega) ?_
            unfold s2_laws_FnBlends
            simp only [Option.getD_some, cc, decide_true, cond_true, getI_nat hp, obind_sm, ci, hb, gb, c1, c2, decide_false, cond_false, w]
        · by_cases c2 : hi < (bAt b p.j).x
          · refine go lo (bAt b p.j).x (by omega) (by omega) (fun _ => by omega) ?_
            unfold s2_laws_FnBlends
            simp only [Option.getD_some, cc, decide_true, cond_true, getI_nat hp, obind_sm, ci, hb, gb, c1, c2, decide_false, cond_false, w]
          · refine go lo hi (by omega) (by omega) (fun _ => by omega) ?_
            unfold s2_laws_FnBlends
            simp only [Option.getD_some, cc, decide_true, cond_true, getI_nat hp, obind_sm, ci, hb, gb, c1, c2, decide_false, cond_false, w]
      · refine go lo hi (by omega) (by omega) (fun h => absurd h ci) ?_
        unfold s2_laws_FnBlends
        simp only [Option.getD_some, cc, decide_true, cond_true, getI_nat hp, obind_sm, ci, decide_false, cond_false, w]
  obtain ⟨lo, hi, e, h⟩ := key path [] x x rfl (Int.le_refl _) (Int.le_refl _) (fun p hp => by cases hp)
  exact ⟨lo, hi, e, h⟩
theorem bAt_get {a : List Feat} {i : Nat} {f : Feat} (h : a[i]? = some f) : bAt a (i : Int) = f := by
  unfold bAt
  rw [List.getD_eq_getElem?_getD, Int.toNat_natCast, h]
  rfl
theorem true_FnBlends (code more : Sl UInt8) : t_laws_FnBlends code more = some true := by
  unfold t_laws_FnBlends t_laws_a2Long
  by_cases c1 : 3000 < (((code.getD []).length : Nat) : Int)
  · simp [c1]
  by_cases c2 : 3000 < (((more.getD []).length : Nat) : Int)
  · simp [c1, c2]
  obtain ⟨a, b, band, e1, T⟩ := two_ex code
  have a1 := T.a1
  have a2 := T.a2
  have b1 := T.b1
  have b2 := T.b2
  obtain ⟨path, e2, P, hl⟩ := path_ex more (n := (a.length : Nat)) (m := (b.length : Nat)) (by omega) (by omega) (by omega) (by omega)
  have Ta : Two a a 0 := ⟨a1, a2, a1, a2, T.fa, T.fa, by omega, by omega, by omega, by omega⟩
  obtain ⟨l1, e3, g1, g2⟩ := blend_ok Ta (diag_path a1) (by simp [diag]; omega)
  obtain ⟨l2, e4, g3, g4⟩ := blend_ok T P (by omega)
  have same : l1 = a := by
    apply List.ext_getElem?
    intro i
    by_cases hi : i < a.length
    · have hf : a[i]? = some a[i] := List.getElem?_eq_getElem hi
      have hg : l1[i]? = some l1[i] := List.getElem?_eq_getElem (by omega)
      have B := g2 i _ _ hf hg
      have hd : ∀ p ∈ diag a.length, p.i = (i : Int) → bAt a p.j = a[i] := by
        intro p hp hpi
        simp only [diag, List.mem_map, List.mem_range] at hp
        obtain ⟨k, _, rfl⟩ := hp
        simp only at hpi
        have : k = i := by omega
        subst this
        exact bAt_get hf
      have bx := B.x a[i].x a[i].x (Int.le_refl _) (Int.le_refl _) fun p hp hpi => by rw [hd p hp hpi]; exact ⟨Int.le_refl _, Int.le_refl _⟩
      have by' := B.y a[i].y a[i].y (Int.le_refl _) (Int.le_refl _) fun p hp hpi => by rw [hd p hp hpi]; exact ⟨Int.le_refl _, Int.le_refl _⟩
      have bd := B.d
      rw [hf, hg]
      congr 1
      revert bx by' bd
      generalize l1[i] = g
      generalize a[i] = f
      obtain ⟨g1, g2, g3⟩ := g
      obtain ⟨f1, f2, f3⟩ := f
      simp only [Feat.mk.injEq]
      omega
    · rw [List.getElem?_eq_none (by omega), List.getElem?_eq_none (by omega)]
  have e5 := same_ok (a := l1) (b := a) same (by omega)
  have own := own_ok (some a, some b, band) (a := a) rfl (by omega)
  have last : loopT (s1_laws_FnBlends (some a, some b, band) (some path) (some l2, 0)) 0 = some (.inl ()) := by
    have lp := loopT_first (step := s1_laws_FnBlends (some a, some b, band) (some path) (some l2, 0)) a (fun _ _ => (none : Option Bool)) (.inl ()) .inr
      (fun k x ha => by
        have hk := get_lt ha
        have c : (k : Int) < (a.length : Nat) := by omega
        have w := wr_succ hk (by omega)
        obtain ⟨lo, hi, em, m1, m2, m3⟩ := min_max_loop (some a, some b, band) (some path) k (b := b) rfl rfl P (by omega) x.x
        have hg : l2[k]? = some l2[k] := List.getElem?_eq_getElem (by omega)
        have B := g4 k _ _ ha hg
        have bx := B.x lo hi m1 m2 m3
        have d1 : ¬ (l2[k].x < lo) := by omega
        have d2 : ¬ (hi < l2[k].x) := by omega
        unfold s1_laws_FnBlends
        simp only [Option.getD_some, c, decide_true, cond_true, getI_nat ha, obind_sm, em, getI_nat hg, d1, d2, decide_false, cond_false, B.d, Bool.not_true, w])
      (by
        unfold s1_laws_FnBlends
        simp only [Option.getD_some, Int.lt_irrefl, decide_false, cond_false])
    rw [firstL_none (fun _ _ _ => rfl)] at lp
    exact lp
  simp [c1, c2, e1, own, e2, e3, e4, e5, g3, last]

/-- One pair lies ahead of another. -/
def Pre (p q i j : Nat) : Prop := (i = p + 1 ∧ j = q + 1) ∨ (i = p + 1 ∧ j = q) ∨ (i = p ∧ j = q + 1)
/-- A path's cost, from the first pair on. -/
inductive Pth (C : Nat → Nat → Int) (R : Nat → Nat → Prop) : Nat → Nat → Int → Prop
  | start : R 0 0 → Pth C R 0 0 (C 0 0)
  | step {p q i j : Nat} {c : Int} : Pth C R p q c → Pre p q i j → R i j → Pth C R i j (c + C i j)
theorem Pth.inv {C : Nat → Nat → Int} {R : Nat → Nat → Prop} {i j : Nat} {c : Int} (h : Pth C R i j c) : (i = 0 ∧ j = 0 ∧ c = C 0 0 ∧ R 0 0) ∨ ∃ p q c', Pth C R p q c' ∧ Pre p q i j ∧ R i j ∧ c = c' + C i j := by
  cases h with
  | start h => exact .inl ⟨rfl, rfl, rfl, h⟩
  | step h1 h2 h3 => exact .inr ⟨_, _, _, h1, h2, h3, rfl⟩
theorem Pth.r {C : Nat → Nat → Int} {R : Nat → Nat → Prop} {i j : Nat} {c : Int} (h : Pth C R i j c) : R i j := by
  cases h with
  | start h => exact h
  | step h1 h2 h3 => exact h3
theorem Pth.bound {C : Nat → Nat → Int} {R : Nat → Nat → Prop} {K : Int} (hC : ∀ i j, 0 ≤ C i j ∧ C i j ≤ K) {i j : Nat} {c : Int} (h : Pth C R i j c) : 0 ≤ c ∧ c ≤ K * ((i + j + 1 : Nat) : Int) := by
  have hK : 0 ≤ K := Int.le_trans (hC 0 0).1 (hC 0 0).2
  induction h with
  | start h => have := hC 0 0; simp; omega
  | @step p q i j c h1 h2 h3 ih =>
    have := hC i j
    have e : K * ((p + q + 1 : Nat) : Int) + K ≤ K * ((i + j + 1 : Nat) : Int) := by
      have e1 : K * ((p + q + 1 : Nat) : Int) + K = K * ((p + q + 2 : Nat) : Int) := by
        have e2 : ((p + q + 2 : Nat) : Int) = ((p + q + 1 : Nat) : Int) + 1 := by omega
        rw [e2, Int.mul_add, Int.mul_one]
      rw [e1]
      apply Int.mul_le_mul_of_nonneg_left _ hK
      rcases h2 with h2 | h2 | h2 <;> omega
    omega
/-- The least cost of the paths to a pair, `B` where there is none. -/
def Opt (B : Int) (C : Nat → Nat → Int) (R : Nat → Nat → Prop) (i j : Nat) (v : Int) : Prop :=
  (v = B ∧ ∀ c, ¬ Pth C R i j c) ∨ (v < B ∧ Pth C R i j v ∧ ∀ c, Pth C R i j c → v ≤ c)
theorem Opt.le {B : Int} {C : Nat → Nat → Int} {R : Nat → Nat → Prop} {i j : Nat} {v : Int} (h : Opt B C R i j v) : v ≤ B := by
  rcases h with ⟨h, _⟩ | ⟨h, _⟩ <;> omega
theorem Opt.of {B : Int} {C : Nat → Nat → Int} {R : Nat → Nat → Prop} {i j : Nat} {v : Int} (h : Opt B C R i j v) {c : Int} (hc : Pth C R i j c) : v ≤ c ∧ Pth C R i j v ∧ v < B := by
  rcases h with ⟨_, h⟩ | ⟨h1, h2, h3⟩
  · exact absurd hc (h c)
  · exact ⟨h3 c hc, h2, h1⟩
theorem Opt.path {B : Int} {C : Nat → Nat → Int} {R : Nat → Nat → Prop} {i j : Nat} {v : Int} (h : Opt B C R i j v) (hv : v < B) : Pth C R i j v := by
  rcases h with ⟨h, _⟩ | ⟨_, h, _⟩
  · omega
  · exact h
theorem opt_far {B : Int} {C : Nat → Nat → Int} {R : Nat → Nat → Prop} {i j : Nat} {b : Int} (h0 : ¬ (i = 0 ∧ j = 0)) (h1 : ∀ p q, Pre p q i j → ∃ v, Opt B C R p q v ∧ b ≤ v) (h : ¬ R i j ∨ B ≤ b) : Opt B C R i j B := by
  refine .inl ⟨rfl, fun c hc => ?_⟩
  rcases hc.inv with ⟨h2, h3, _⟩ | ⟨p, q, c', h2, h3, h4, _⟩
  · exact h0 ⟨h2, h3⟩
  · obtain ⟨v, h5, h6⟩ := h1 p q h3
    rcases h with h | h
    · exact h h4
    · have := (h5.of h2).2.2
      omega
theorem opt_step {B K : Int} {C : Nat → Nat → Int} {R : Nat → Nat → Prop} (hC : ∀ i j, 0 ≤ C i j ∧ C i j ≤ K) {i j : Nat} (hB : K * ((i + j + 1 : Nat) : Int) < B) {b : Int} (h0 : ¬ (i = 0 ∧ j = 0)) (h1 : ∀ p q, Pre p q i j → ∃ v, Opt B C R p q v ∧ b ≤ v) (h2 : ∃ p q, Pre p q i j ∧ Opt B C R p q b) (hb : b < B) (hr : R i j) : Opt B C R i j (b + C i j) := by
  obtain ⟨p, q, h3, h4⟩ := h2
  have hp := Pth.step (h4.path hb) h3 hr
  have := hp.bound hC
  refine .inr ⟨by omega, hp, fun c hc => ?_⟩
  rcases hc.inv with ⟨h5, h6, _⟩ | ⟨p', q', c', h5, h6, h7, h8⟩
  · exact absurd ⟨h5, h6⟩ h0
  · obtain ⟨v, h9, h10⟩ := h1 p' q' h6
    have := (h9.of h5).1
    omega
theorem opt_start {B K : Int} {C : Nat → Nat → Int} {R : Nat → Nat → Prop} (hC : ∀ i j, 0 ≤ C i j ∧ C i j ≤ K) (hB : K < B) (hr : R 0 0) : Opt B C R 0 0 (C 0 0) := by
  have := hC 0 0
  refine .inr ⟨by omega, .start hr, fun c hc => ?_⟩
  rcases hc.inv with ⟨_, _, h, _⟩ | ⟨p, q, c', _, h, _⟩
  · omega
  · rcases h with h | h | h <;> omega

theorem Pth.mono {C D : Nat → Nat → Int} {R S : Nat → Nat → Prop} {i j : Nat} {c : Int} (h : Pth C R i j c) (hR : ∀ p q, p ≤ i → q ≤ j → R p q → S p q) (hC : ∀ p q, p ≤ i → q ≤ j → C p q = D p q) : Pth D S i j c := by
  induction h with
  | start h =>
    rw [hC 0 0 (Nat.le_refl _) (Nat.le_refl _)]
    exact .start (hR 0 0 (Nat.le_refl _) (Nat.le_refl _) h)
  | @step p q i j c h1 h2 h3 ih =>
    have hle : p ≤ i ∧ q ≤ j := by rcases h2 with h | h | h <;> omega
    rw [hC i j (Nat.le_refl _) (Nat.le_refl _)]
    exact .step (ih (fun a b h4 h5 => hR a b (by omega) (by omega)) (fun a b h4 h5 => hC a b (by omega) (by omega))) h2 (hR i j (Nat.le_refl _) (Nat.le_refl _) h3)
theorem Pth.swap {C : Nat → Nat → Int} {R : Nat → Nat → Prop} {i j : Nat} {c : Int} (h : Pth C R i j c) : Pth (fun a b => C b a) (fun a b => R b a) j i c := by
  induction h with
  | start h => exact .start (C := fun a b => C b a) (R := fun a b => R b a) h
  | @step p q i j c h1 h2 h3 ih =>
    exact .step (C := fun a b => C b a) (R := fun a b => R b a) (i := j) (j := i) ih (by unfold Pre at *; omega) h3
/-- A path read from its end on. -/
theorem Pth.back {C D : Nat → Nat → Int} {R S : Nat → Nat → Prop} {N M : Nat} (hD : ∀ i j, i ≤ N → j ≤ M → D (N - i) (M - j) = C i j) (hS : ∀ i j, i ≤ N → j ≤ M → S i j) {i j : Nat} {c : Int} (h : Pth C R i j c) :
    ∀ {e : Int}, i ≤ N → j ≤ M → Pth D S (N - i) (M - j) e → Pth D S N M (e + c - C i j) := by
  induction h with
  | start h =>
    intro e hi hj he
    have : e + C 0 0 - C 0 0 = e := by omega
    rw [this]
    exact he
  | @step p q i j c h1 h2 h3 ih =>
    intro e hi hj he
    have hle : p ≤ i ∧ q ≤ j := by rcases h2 with h | h | h <;> omega
    have hs : Pth D S (N - p) (M - q) (e + D (N - p) (M - q)) := .step he (by unfold Pre at *; omega) (hS _ _ (by omega) (by omega))
    have := ih (by omega) (by omega) hs
    rw [hD p q (by omega) (by omega)] at this
    have e2 : e + C p q + c - C p q = e + (c + C i j) - C i j := by omega
    rw [e2] at this
    exact this
theorem Pth.rev {C D : Nat → Nat → Int} {R S : Nat → Nat → Prop} {N M : Nat} (hD : ∀ i j, i ≤ N → j ≤ M → D (N - i) (M - j) = C i j) (hS : ∀ i j, i ≤ N → j ≤ M → S i j) {c : Int} (h : Pth C R N M c) : Pth D S N M c := by
  have h0 : Pth D S (N - N) (M - M) (D 0 0) := by
    rw [Nat.sub_self, Nat.sub_self]
    exact .start (hS 0 0 (Nat.zero_le _) (Nat.zero_le _))
  have := h.back hD hS (Nat.le_refl _) (Nat.le_refl _) h0
  have e := hD N M (Nat.le_refl _) (Nat.le_refl _)
  rw [Nat.sub_self, Nat.sub_self] at e
  rw [e] at this
  have e2 : C N M + c - C N M = c := by omega
  rw [e2] at this
  exact this
theorem Pth.diag {C : Nat → Nat → Int} {R : Nat → Nat → Prop} (h0 : ∀ i, C i i = 0) (hR : ∀ i, R i i) : ∀ n, Pth C R n n 0
  | 0 => by rw [← h0 0]; exact .start (hR 0)
  | n + 1 => by
    have := Pth.step (Pth.diag h0 hR n) (.inl ⟨rfl, rfl⟩) (hR (n + 1))
    rw [h0] at this
    exact this

def fAt (l : List Feat) (i : Nat) : Feat := l.getD i ⟨0, 0, 0⟩
def siz (x : Int) : Int := if x < 0 then -x else x
def fcost (a b : Feat) : Int := siz (a.x - b.x) + siz (a.y - b.y) + 16 * min (siz (a.d - b.d)) (8 - siz (a.d - b.d))
theorem absI_siz {x : Int} (h : -1000000 ≤ x) (h' : x ≤ 1000000) : absI x = siz x := by
  unfold absI siz
  by_cases c : x < 0
  · have w : wr (-x) = -x := wr_id (by omega) (by omega)
    simp [c, w]
  · simp [c]
theorem fAt_ok {l : List Feat} (h : ∀ f ∈ l, FOK f) (i : Nat) : FOK (fAt l i) := by
  unfold fAt
  rw [List.getD_eq_getElem?_getD]
  cases e : l[i]? with
  | none => exact ⟨by simp, by simp, by simp, by simp, by simp, by simp⟩
  | some f => exact h f (List.mem_of_getElem? e)
theorem getI_fAt {l : List Feat} {i : Nat} (h : i < l.length) : getI l (i : Int) = some (fAt l i) := by
  apply getI_nat
  unfold fAt
  rw [List.getD_eq_getElem?_getD, List.getElem?_eq_getElem h]
  rfl
theorem fcost_le {a b : Feat} (ha : FOK a) (hb : FOK b) : 0 ≤ fcost a b ∧ fcost a b ≤ 1000 := by
  obtain ⟨a1, a2, a3, a4, a5, a6⟩ := ha
  obtain ⟨b1, b2, b3, b4, b5, b6⟩ := hb
  unfold fcost siz
  split <;> split <;> split <;> omega
theorem fcost_comm (a b : Feat) : fcost a b = fcost b a := by
  unfold fcost siz
  split <;> split <;> split <;> split <;> split <;> split <;> omega
theorem fcost_self (a : Feat) : fcost a a = 0 := by
  unfold fcost siz
  split <;> split <;> split <;> omega
theorem featCost_ok {a b : Feat} (ha : FOK a) (hb : FOK b) : t_impl_featCost a b = some (fcost a b) := by
  have hc := fcost_le ha hb
  obtain ⟨a1, a2, a3, a4, a5, a6⟩ := ha
  obtain ⟨b1, b2, b3, b4, b5, b6⟩ := hb
  unfold t_impl_featCost
  have w1 : wr (a.d - b.d) = a.d - b.d := wr_id (by omega) (by omega)
  have w2 : wr (a.x - b.x) = a.x - b.x := wr_id (by omega) (by omega)
  have w3 : wr (a.y - b.y) = a.y - b.y := wr_id (by omega) (by omega)
  have q1 := absI_siz (x := a.d - b.d) (by omega) (by omega)
  have q2 := absI_siz (x := a.x - b.x) (by omega) (by omega)
  have q3 := absI_siz (x := a.y - b.y) (by omega) (by omega)
  have p1 : 0 ≤ siz (a.d - b.d) ∧ siz (a.d - b.d) ≤ 7 := by unfold siz; split <;> omega
  have p2 : 0 ≤ siz (a.x - b.x) ∧ siz (a.x - b.x) ≤ 255 := by unfold siz; split <;> omega
  have p3 : 0 ≤ siz (a.y - b.y) ∧ siz (a.y - b.y) ≤ 255 := by unfold siz; split <;> omega
  have w4 : wr (8 - siz (a.d - b.d)) = 8 - siz (a.d - b.d) := wr_id (by omega) (by omega)
  have w5 : wr (siz (a.x - b.x) + siz (a.y - b.y)) = siz (a.x - b.x) + siz (a.y - b.y) := wr_id (by omega) (by omega)
  have w6 : wr (16 * min (siz (a.d - b.d)) (8 - siz (a.d - b.d))) = 16 * min (siz (a.d - b.d)) (8 - siz (a.d - b.d)) := wr_id (by omega) (by omega)
  have w7 : wr (siz (a.x - b.x) + siz (a.y - b.y) + 16 * min (siz (a.d - b.d)) (8 - siz (a.d - b.d))) = fcost a b := by
    have e : siz (a.x - b.x) + siz (a.y - b.y) + 16 * min (siz (a.d - b.d)) (8 - siz (a.d - b.d)) = fcost a b := rfl
    rw [e, wr_id (by omega) (by omega)]
  simp only [w1, w2, w3, obind_sm, q1, q2, q3, w4, w5, w6, w7]

/-- A table's entry. -/
def Val (T : List (Sl Int)) (p q : Nat) (v : Int) : Prop := ∃ row, T[p]? = some (some row) ∧ row[q]? = some v
abbrev far : Int := 1099511627776
theorem lb_in {T : List (Sl Int)} {i j d0 d1 k : Nat} {w v : Int} (hk : k < 3) (h : getI [(⟨1, 1⟩ : Ar2), ⟨1, 0⟩, ⟨0, 1⟩] (k : Int) = some ⟨(d0 : Int), (d1 : Int)⟩) (h0 : d0 ≤ i) (h1 : d1 ≤ j) (hi : i ≤ 1000000) (hj : j ≤ 1000000) (hv : Val T (i - d0) (j - d1) v) :
    s0_impl_leastBefore (some T) (i : Int) (j : Int) ⟨1, 1, 1, 0, 0, 1⟩ (w, (k : Int)) = some (.inl (min w v, ((k + 1 : Nat) : Int))) := by
  obtain ⟨row, r1, r2⟩ := hv
  have c : (k : Int) < 3 := by omega
  have c0 : (d0 : Int) ≤ (i : Int) := by omega
  have c1 : (d1 : Int) ≤ (j : Int) := by omega
  have w0 : wr ((i : Int) - (d0 : Int)) = ((i - d0 : Nat) : Int) := by rw [wr_id (by omega) (by omega)]; omega
  have w1 : wr ((j : Int) - (d1 : Int)) = ((j - d1 : Nat) : Int) := by rw [wr_id (by omega) (by omega)]; omega
  have w2 := wr_succ hk (by omega)
  unfold s0_impl_leastBefore
  simp only [c, decide_true, cond_true, h, obind_sm, c0, c1, Option.getD_some, w0, w1, getI_nat r1, getI_nat r2, w2]
theorem lb_out {T : List (Sl Int)} {i j d0 d1 k : Nat} {w : Int} (hk : k < 3) (h : getI [(⟨1, 1⟩ : Ar2), ⟨1, 0⟩, ⟨0, 1⟩] (k : Int) = some ⟨(d0 : Int), (d1 : Int)⟩) (h0 : ¬ (d0 ≤ i ∧ d1 ≤ j)) :
    s0_impl_leastBefore (some T) (i : Int) (j : Int) ⟨1, 1, 1, 0, 0, 1⟩ (w, (k : Int)) = some (.inl (w, ((k + 1 : Nat) : Int))) := by
  have c : (k : Int) < 3 := by omega
  have w2 := wr_succ hk (by omega)
  unfold s0_impl_leastBefore
  by_cases c0 : (d0 : Int) ≤ (i : Int)
  · have c1 : ¬ (d1 : Int) ≤ (j : Int) := by omega
    simp only [c, decide_true, cond_true, h, obind_sm, c0, c1, decide_false, cond_false, w2]
  · simp only [c, decide_true, cond_true, h, obind_sm, c0, decide_false, cond_false, w2]
/-- The least of the entries ahead of a pair. -/
theorem least_ok {T : List (Sl Int)} {i j : Nat} (hi : i ≤ 1000000) (hj : j ≤ 1000000) (hT : ∀ p q, Pre p q i j → ∃ v, Val T p q v) :
    ∃ b, t_impl_leastBefore (some T) (i : Int) (j : Int) = some b ∧ b ≤ far ∧ (b = far ∨ ∃ p q, Pre p q i j ∧ Val T p q b) ∧ ∀ p q v, Pre p q i j → Val T p q v → b ≤ v := by
  have uniq : ∀ {p q : Nat} {v v' : Int}, Val T p q v → Val T p q v' → v = v' := by
    rintro p q v v' ⟨r, h1, h2⟩ ⟨r', h3, h4⟩
    rw [h1] at h3
    cases h3
    rw [h2] at h4
    cases h4
    rfl
  have round : ∀ (k d0 d1 : Nat) (w : Int), k < 3 → getI [(⟨1, 1⟩ : Ar2), ⟨1, 0⟩, ⟨0, 1⟩] (k : Int) = some ⟨(d0 : Int), (d1 : Int)⟩ → (0 < d0 + d1 ∧ d0 ≤ 1 ∧ d1 ≤ 1) →
      (w = far ∨ ∃ p q, Pre p q i j ∧ Val T p q w) → ∃ w', s0_impl_leastBefore (some T) (i : Int) (j : Int) ⟨1, 1, 1, 0, 0, 1⟩ (w, (k : Int)) = some (.inl (w', ((k + 1 : Nat) : Int))) ∧ w' ≤ w ∧ (w' = far ∨ ∃ p q, Pre p q i j ∧ Val T p q w') ∧
        ∀ p q v, i = p + d0 → j = q + d1 → Val T p q v → w' ≤ v := by
    intro k d0 d1 w hk hg hd hw
    by_cases c : d0 ≤ i ∧ d1 ≤ j
    · have hp : Pre (i - d0) (j - d1) i j := by unfold Pre; omega
      obtain ⟨v, hv⟩ := hT _ _ hp
      refine ⟨min w v, lb_in hk hg c.1 c.2 hi hj hv, by omega, ?_, ?_⟩
      · by_cases m : w ≤ v
        · rw [Int.min_eq_left m]
          exact hw
        · rw [Int.min_eq_right (by omega)]
          exact .inr ⟨_, _, hp, hv⟩
      · intro p q v' e1 e2 hv'
        have ep : p = i - d0 := by omega
        have eq : q = j - d1 := by omega
        subst ep eq
        rw [uniq hv' hv]
        omega
    · refine ⟨w, lb_out hk hg c, Int.le_refl _, hw, ?_⟩
      intro p q v' e1 e2 hv'
      omega
  obtain ⟨w1, e1, l1, o1, m1⟩ := round 0 1 1 far (by omega) rfl (by omega) (.inl rfl)
  obtain ⟨w2, e2, l2, o2, m2⟩ := round 1 1 0 w1 (by omega) rfl (by omega) o1
  obtain ⟨w3, e3, l3, o3, m3⟩ := round 2 0 1 w2 (by omega) rfl (by omega) o2
  refine ⟨w3, ?_, by omega, o3, ?_⟩
  · unfold t_impl_leastBefore t_impl_stepsBack
    simp only [obind_sm]
    rw [show (1099511627776 : Int) = far from rfl, show (0 : Int) = ((0 : Nat) : Int) from rfl, loopT_next (by simpa using e1), loopT_next (by simpa using e2), loopT_next (by simpa using e3)]
    have e4 : s0_impl_leastBefore (some T) (i : Int) (j : Int) ⟨1, 1, 1, 0, 0, 1⟩ (w3, (3 : Int)) = some (.inr w3) := by
      unfold s0_impl_leastBefore
      simp only [Int.lt_irrefl, decide_false, cond_false]
    rw [loopT_end (by simpa using e4)]
    rfl
  · intro p q v hp hv
    rcases hp with ⟨h1, h2⟩ | ⟨h1, h2⟩ | ⟨h1, h2⟩
    · have := m1 p q v h1 h2 hv
      omega
    · have := m2 p q v h1 (by omega) hv
      omega
    · have := m3 p q v (by omega) h2 hv
      omega

abbrev elC (a b : List Feat) : Nat → Nat → Int := fun i j => fcost (fAt a i) (fAt b j)
abbrev elR (band : Int) : Nat → Nat → Prop := fun i j => siz ((i : Int) - (j : Int)) ≤ band
theorem elC_le {a b : List Feat} (fa : ∀ f ∈ a, FOK f) (fb : ∀ f ∈ b, FOK f) (i j : Nat) : 0 ≤ elC a b i j ∧ elC a b i j ≤ 1000 := fcost_le (fAt_ok fa i) (fAt_ok fb j)
/-- The table's rows ahead of `i`, and `j` entries of row `i`, are the least costs. -/
structure Tbl (a b : List Feat) (band : Int) (i j : Nat) (T : List (Sl Int)) : Prop where
  len : T.length = a.length
  val : ∀ p q, q < b.length → (p < i ∨ p = i ∧ q < j) → ∃ v, Val T p q v ∧ Opt far (elC a b) (elR band) p q v
theorem Val.set {T : List (Sl Int)} {i j p q : Nat} {row : List Int} {v w : Int} (hr : T[i]? = some (some row)) (hj : j < row.length) :
    Val (T.set i (some (row.set j w))) p q v ↔ (p = i ∧ q = j ∧ v = w) ∨ (¬ (p = i ∧ q = j) ∧ Val T p q v) := by
  have hi := get_lt hr
  unfold Val
  constructor
  · rintro ⟨r, h1, h2⟩
    by_cases c : i = p
    · subst c
      rw [List.getElem?_set_self hi] at h1
      cases h1
      by_cases d : j = q
      · subst d
        rw [List.getElem?_set_self hj] at h2
        cases h2
        exact .inl ⟨rfl, rfl, rfl⟩
      · rw [List.getElem?_set_ne d] at h2
        exact .inr ⟨fun h => d h.2.symm, row, hr, h2⟩
    · rw [List.getElem?_set_ne c] at h1
      exact .inr ⟨fun h => c h.1.symm, r, h1, h2⟩
  · rintro (⟨rfl, rfl, rfl⟩ | ⟨hne, r, h1, h2⟩)
    · exact ⟨_, List.getElem?_set_self hi, List.getElem?_set_self hj⟩
    · by_cases c : i = p
      · subst c
        rw [hr] at h1
        cases h1
        have d : j ≠ q := fun h => hne ⟨rfl, h.symm⟩
        exact ⟨_, List.getElem?_set_self hi, by rw [List.getElem?_set_ne d]; exact h2⟩
      · exact ⟨r, by rw [List.getElem?_set_ne c]; exact h1, h2⟩
theorem cell_ok {a b : List Feat} {band : Int} (fa : ∀ f ∈ a, FOK f) (fb : ∀ f ∈ b, FOK f) (la : a.length ≤ 100) (lb : b.length ≤ 100) (hb : 0 ≤ band) {i j : Nat} (hi : i < a.length) (hj : j < b.length) {T : List (Sl Int)} {row : List Int}
    (h : Tbl a b band i j T) (hr : T[i]? = some (some row)) (hl : row.length = b.length) :
    ∃ v, s1_impl_costTable (some a) (some b) band (i : Int) (some T, (j : Int)) = some (.inl (some (T.set i (some (row.set j v))), ((j + 1 : Nat) : Int))) ∧ Opt far (elC a b) (elR band) i j v := by
  have hC := elC_le fa fb
  have hpre : ∀ p q, Pre p q i j → q < b.length ∧ (p < i ∨ p = i ∧ q < j) := by
    intro p q hp
    unfold Pre at hp
    omega
  obtain ⟨bef, e1, l1, o1, m1⟩ := least_ok (T := T) (i := i) (j := j) (by omega) (by omega) (fun p q hp => by
    obtain ⟨v, hv, _⟩ := h.val p q (hpre p q hp).1 (hpre p q hp).2
    exact ⟨v, hv⟩)
  have uniq : ∀ {p q : Nat} {v v' : Int}, Val T p q v → Val T p q v' → v = v' := by
    rintro p q v v' ⟨r, h1, h2⟩ ⟨r', h3, h4⟩
    rw [h1] at h3
    cases h3
    rw [h2] at h4
    cases h4
    rfl
  have hp1 : ∀ p q, Pre p q i j → ∃ v, Opt far (elC a b) (elR band) p q v ∧ bef ≤ v := by
    intro p q hp
    obtain ⟨v, hv, ho⟩ := h.val p q (hpre p q hp).1 (hpre p q hp).2
    exact ⟨v, ho, m1 p q v hp hv⟩
  have hB : (1000 : Int) * ((i + j + 1 : Nat) : Int) < far := by unfold far; omega
  have c : (j : Int) < ((b.length : Nat) : Int) := by omega
  have w1 : wr ((i : Int) - (j : Int)) = (i : Int) - (j : Int) := wr_id (by omega) (by omega)
  have q1 := absI_siz (x := (i : Int) - (j : Int)) (by omega) (by omega)
  have ws := wr_succ hj (by omega)
  have gr := getI_nat hr
  obtain ⟨v0, hv0⟩ : ∃ v0, row[j]? = some v0 := ⟨row[j], List.getElem?_eq_getElem (by omega)⟩
  have gv := getI_nat hv0
  have ga := getI_fAt hi
  have gb := getI_fAt hj
  have fc := featCost_ok (fAt_ok fa i) (fAt_ok fb j)
  have hc0 : 0 ≤ fcost (fAt a i) (fAt b j) ∧ fcost (fAt a i) (fAt b j) ≤ 1000 := hC i j
  have tn : ∀ k : Nat, ((k : Int)).toNat = k := fun k => Int.toNat_natCast k
  have st1 : ∀ x : Sl Int, setS (some T) (i : Int) x = some (T.set i x) := fun x => by simp [setS]
  have st2 : ∀ x : Int, setS (some row) (j : Int) x = some (row.set j x) := fun x => by simp [setS]
  have dt : ∀ {P : Prop} [Decidable P], P → decide P = true := fun h => decide_eq_true h
  have df : ∀ {P : Prop} [Decidable P], ¬ P → decide P = false := fun h => decide_eq_false h
  by_cases z : i = 0 ∧ j = 0
  · have q2 : siz ((i : Int) - (j : Int)) = 0 := by unfold siz; split <;> omega
    have D1 := dt (P := (i : Int) = 0) (by omega)
    have D2 := dt (P := (j : Int) = 0) (by omega)
    have D3 := df (P := band < siz ((i : Int) - (j : Int))) (by omega)
    have D4 := df (P := (1099511627776 : Int) ≤ 0) (by omega)
    have w2 : wr (0 + fcost (fAt a i) (fAt b j)) = elC a b i j := by show _ = fcost (fAt a i) (fAt b j); rw [Int.zero_add, wr_id (by omega) (by omega)]
    refine ⟨elC a b i j, ?_, by
      obtain ⟨rfl, rfl⟩ := z
      exact opt_start hC (by unfold far; omega) (by show siz _ ≤ band; rw [q2]; exact hb)⟩
    unfold s1_impl_costTable
    simp only [Option.getD_some, c, decide_true, cond_true, e1, obind_sm, w1, q1, D1, D2, D3, D4, decide_false, cond_false, gr, ga, gb, gv, fc, w2, st1, st2, ws]
    rfl
  · by_cases far1 : band < siz ((i : Int) - (j : Int)) ∨ far ≤ bef
    · refine ⟨far, ?_, opt_far z hp1 (by rcases far1 with h | h; exact .inl (by show ¬ (siz _ ≤ band); omega); exact .inr h)⟩
      unfold s1_impl_costTable
      by_cases ci : (i : Int) = 0
      · have D1 := dt ci
        have D2 := df (P := (j : Int) = 0) (by omega)
        by_cases h : band < siz ((i : Int) - (j : Int))
        · have D3 := dt h
          simp only [Option.getD_some, c, decide_true, cond_true, e1, obind_sm, w1, q1, D1, D2, D3, cond_false, gr, gv, st1, st2, ws]
        · have D3 := df h
          have D4 := dt (P := (1099511627776 : Int) ≤ bef) (far1.resolve_left h)
          simp only [Option.getD_some, c, decide_true, cond_true, e1, obind_sm, w1, q1, D1, D2, D3, D4, cond_false, gr, gv, st1, st2, ws]
      · have D1 := df ci
        by_cases h : band < siz ((i : Int) - (j : Int))
        · have D3 := dt h
          simp only [Option.getD_some, c, decide_true, cond_true, e1, obind_sm, w1, q1, D1, D3, cond_false, gr, gv, st1, st2, ws]
        · have D3 := df h
          have D4 := dt (P := (1099511627776 : Int) ≤ bef) (far1.resolve_left h)
          simp only [Option.getD_some, c, decide_true, cond_true, e1, obind_sm, w1, q1, D1, D3, D4, cond_false, gr, gv, st1, st2, ws]
    · have f1 : ¬ band < siz ((i : Int) - (j : Int)) := fun h => far1 (.inl h)
      have f2 : ¬ (1099511627776 : Int) ≤ bef := fun h => far1 (.inr h)
      have hlt : bef < far := by unfold far; omega
      obtain ⟨p, q, hp, hv⟩ := o1.resolve_left (by omega)
      have ho : Opt far (elC a b) (elR band) p q bef := by
        obtain ⟨v, hv', ho⟩ := h.val p q (hpre p q hp).1 (hpre p q hp).2
        rw [uniq hv hv']
        exact ho
      have os := opt_step hC hB z hp1 ⟨p, q, hp, ho⟩ hlt (by show siz _ ≤ band; omega)
      have bd := (ho.path hlt).bound hC
      refine ⟨bef + elC a b i j, ?_, os⟩
      have w2 : wr (bef + fcost (fAt a i) (fAt b j)) = bef + elC a b i j := by have : bef ≤ far := l1; show _ = bef + fcost (fAt a i) (fAt b j); unfold far at this; rw [wr_id (by omega) (by omega)]
      have D3 := df f1
      have D4 := df f2
      unfold s1_impl_costTable
      by_cases ci : (i : Int) = 0
      · have D1 := dt ci
        have D2 := df (P := (j : Int) = 0) (by omega)
        simp only [Option.getD_some, c, decide_true, cond_true, e1, obind_sm, w1, q1, D1, D2, D3, D4, cond_false, gr, ga, gb, gv, fc, w2, st1, st2, ws]
      · have D1 := df ci
        simp only [Option.getD_some, c, decide_true, cond_true, e1, obind_sm, w1, q1, D1, D3, D4, cond_false, gr, ga, gb, gv, fc, w2, st1, st2, ws]

theorem Tbl.step {a b : List Feat} {band : Int} {i j : Nat} {T : List (Sl Int)} {row : List Int} {v : Int} (h : Tbl a b band i j T) (hr : T[i]? = some (some row)) (hj : j < row.length) (ho : Opt far (elC a b) (elR band) i j v) : Tbl a b band i (j + 1) (T.set i (some (row.set j v))) := by
  refine ⟨by simp [h.len], fun p q hq hpq => ?_⟩
  by_cases e : p = i ∧ q = j
  · obtain ⟨rfl, rfl⟩ := e
    exact ⟨v, (Val.set hr hj).2 (.inl ⟨rfl, rfl, rfl⟩), ho⟩
  · obtain ⟨w, h1, h2⟩ := h.val p q hq (by omega)
    exact ⟨w, (Val.set hr hj).2 (.inr ⟨e, h1⟩), h2⟩
theorem table_ok {a b : List Feat} {band : Int} (fa : ∀ f ∈ a, FOK f) (fb : ∀ f ∈ b, FOK f) (la : a.length ≤ 100) (lb : b.length ≤ 100) (hb : 0 ≤ band) :
    ∃ T, t_impl_costTable (some a) (some b) band = some (some T) ∧ Tbl a b band a.length 0 T := by
  have mk : ∀ {A : Type} (v : A) {n : Nat}, n ≤ 100 → makeO v (n : Int) = some (List.replicate n v) := fun v n hn => by
    unfold makeO
    rw [if_pos ⟨by omega, by omega⟩, Int.toNat_natCast]
  have inner : ∀ (i : Nat), i < a.length → ∀ (T : List (Sl Int)) (row : List Int), Tbl a b band i 0 T → T[i]? = some (some row) → row.length = b.length → ∃ T', loopT (s1_impl_costTable (some a) (some b) band (i : Int)) (some T, 0) = some (some T') ∧ Tbl a b band (i + 1) 0 T' := by
    intro i hi T row h hr hl
    obtain ⟨r, h1, h2⟩ := loopT_ex (step := s1_impl_costTable (some a) (some b) band (i : Int)) (fun j s => ∃ T row, s = (some T, (j : Int)) ∧ Tbl a b band i j T ∧ T[i]? = some (some row) ∧ row.length = b.length) b.length (fun r => ∃ T', r = some T' ∧ Tbl a b band (i + 1) 0 T')
      (fun j s hj hs => by
        obtain ⟨T, row, rfl, h, hr, hl⟩ := hs
        obtain ⟨v, e, ho⟩ := cell_ok fa fb la lb hb hi hj h hr hl
        exact .inl ⟨_, e, _, row.set j v, rfl, h.step hr (by omega) ho, List.getElem?_set_self (get_lt hr), by simp [hl]⟩)
      (fun s hs => by
        obtain ⟨T, row, rfl, h, hr, hl⟩ := hs
        refine ⟨some T, ?_, T, rfl, h.len, fun p q hq hpq => h.val p q hq (by omega)⟩
        unfold s1_impl_costTable
        simp only [Option.getD_some, Int.lt_irrefl, decide_false, cond_false])
      (s := (some T, 0)) ⟨T, row, rfl, h, hr, hl⟩
    obtain ⟨T', rfl, h3⟩ := h2
    exact ⟨T', h1, h3⟩
  obtain ⟨r, h1, h2⟩ := loopT_ex (step := s0_impl_costTable (some a) (some b) band) (fun i s => ∃ T, s = (some T, (i : Int)) ∧ Tbl a b band i 0 T) a.length (fun r => ∃ T, r = some T ∧ Tbl a b band a.length 0 T)
    (fun i s hi hs => by
      obtain ⟨T, rfl, h⟩ := hs
      have c : (i : Int) < ((a.length : Nat) : Int) := by omega
      obtain ⟨x, hx⟩ : ∃ x, T[i]? = some x := ⟨T[i]'(by rw [h.len]; exact hi), List.getElem?_eq_getElem (by rw [h.len]; exact hi)⟩
      have st1 : ∀ x : Sl Int, setS (some T) (i : Int) x = some (T.set i x) := fun x => by simp [setS]
      have hT : Tbl a b band i 0 (T.set i (some (List.replicate b.length 0))) := ⟨by simp [h.len], fun p q hq hpq => by
        obtain ⟨v, ⟨r, h3, h4⟩, h5⟩ := h.val p q hq hpq
        exact ⟨v, ⟨r, by rw [List.getElem?_set_ne (by omega)]; exact h3, h4⟩, h5⟩⟩
      obtain ⟨T', e, h'⟩ := inner i hi _ _ hT (List.getElem?_set_self (get_lt hx)) (by simp)
      refine .inl ⟨(some T', ((i + 1 : Nat) : Int)), ?_, T', rfl, h'⟩
      unfold s0_impl_costTable
      simp only [Option.getD_some, c, decide_true, cond_true, mk (0 : Int) lb, obind_sm, getI_nat hx, st1, e, wr_succ hi (by omega)])
    (fun s hs => by
      obtain ⟨T, rfl, h⟩ := hs
      refine ⟨some T, ?_, T, rfl, h⟩
      unfold s0_impl_costTable
      simp only [Option.getD_some, Int.lt_irrefl, decide_false, cond_false])
    (s := (some (List.replicate a.length none), 0)) ⟨_, rfl, by simp, fun p q _ h => by omega⟩
  obtain ⟨T, rfl, h3⟩ := h2
  refine ⟨T, ?_, h3⟩
  unfold t_impl_costTable
  simp only [Option.getD_some, mk (none : Sl Int) la, obind_sm, h1]
/-- What the program tells as the least cost is the least cost. -/
theorem elastic_ok {a b : List Feat} {band : Int} (fa : ∀ f ∈ a, FOK f) (fb : ∀ f ∈ b, FOK f) (a1 : 1 ≤ a.length) (la : a.length ≤ 72) (b1 : 1 ≤ b.length) (lb : b.length ≤ 72) (hb : 0 ≤ band) (hb2 : band ≤ 72)
    (d1 : (a.length : Int) - b.length ≤ band) (d2 : (b.length : Int) - a.length ≤ band) : ∃ v, t_impl_Elastic (some a) (some b) band = some (v, 0) ∧ Opt far (elC a b) (elR band) (a.length - 1) (b.length - 1) v := by
  obtain ⟨T, e, h⟩ := table_ok (band := band) fa fb (by omega) (by omega) hb
  obtain ⟨v, ⟨r, h1, h2⟩, ho⟩ := h.val (a.length - 1) (b.length - 1) (by omega) (by omega)
  refine ⟨v, ?_, ho⟩
  have w1 : wr ((a.length : Int) - 1) = ((a.length - 1 : Nat) : Int) := by rw [wr_id (by omega) (by omega)]; omega
  have w2 : wr ((b.length : Int) - 1) = ((b.length - 1 : Nat) : Int) := by rw [wr_id (by omega) (by omega)]; omega
  have w3 : wr ((a.length : Int) - b.length) = (a.length : Int) - b.length := wr_id (by omega) (by omega)
  have q := absI_siz (x := (a.length : Int) - b.length) (by omega) (by omega)
  have q2 : siz ((a.length : Int) - b.length) ≤ band := by unfold siz; split <;> omega
  have wi : within band 0 72 = true := by simp [within]; omega
  have v1 := validSeq_ok fa a1 la
  have v2 := validSeq_ok fb b1 lb
  have el : t_impl_elastic (some a) (some b) band = some v := by
    unfold t_impl_elastic
    simp only [e, obind_sm, Option.getD_some, w1, w2, getI_nat h1, getI_nat h2]
  have ma : t_impl_matchable (some a) (some b) band = some 0 := by
    unfold t_impl_matchable t_impl_isBand
    simp [v1, v2, wi, w3, q, q2]
  unfold t_impl_Elastic
  simp [ma, el]

def turn (f : Feat) : Feat := ⟨f.x, f.y, Int.tmod (wr (f.d + 4)) 8⟩
theorem turn_d {f : Feat} (h : FOK f) : (turn f).d = if f.d < 4 then f.d + 4 else f.d - 4 := by
  obtain ⟨h1, h2, h3, h4, h5, h6⟩ := h
  have w : wr (f.d + 4) = f.d + 4 := wr_id (by omega) (by omega)
  have e : (turn f).d = Int.tmod (wr (f.d + 4)) 8 := rfl
  rw [e, w, Int.tmod_eq_emod_of_nonneg (by omega)]
  split <;> omega
theorem turn_ok {f : Feat} (h : FOK f) : FOK (turn f) := by
  have e := turn_d h
  obtain ⟨h1, h2, h3, h4, h5, h6⟩ := h
  refine ⟨h1, h2, h3, h4, ?_, ?_⟩ <;> (rw [e]; split <;> omega)
theorem fcost_turn {f g : Feat} (hf : FOK f) (hg : FOK g) : fcost (turn f) (turn g) = fcost f g := by
  have e1 := turn_d hf
  have e2 := turn_d hg
  have x1 : (turn f).x = f.x := rfl
  have x2 : (turn g).x = g.x := rfl
  have y1 : (turn f).y = f.y := rfl
  have y2 : (turn g).y = g.y := rfl
  obtain ⟨h1, h2, h3, h4, h5, h6⟩ := hf
  obtain ⟨i1, i2, i3, i4, i5, i6⟩ := hg
  unfold fcost
  rw [x1, x2, y1, y2, e1, e2]
  have key : min (siz ((if f.d < 4 then f.d + 4 else f.d - 4) - if g.d < 4 then g.d + 4 else g.d - 4)) (8 - siz ((if f.d < 4 then f.d + 4 else f.d - 4) - if g.d < 4 then g.d + 4 else g.d - 4)) = min (siz (f.d - g.d)) (8 - siz (f.d - g.d)) := by
    unfold siz
    split <;> split <;> split <;> split <;> omega
  rw [key]
def bk (a : List Feat) : List Feat := a.reverse.map turn
theorem bk_len (a : List Feat) : (bk a).length = a.length := by simp [bk]
theorem bk_ok {a : List Feat} (h : ∀ f ∈ a, FOK f) : ∀ f ∈ bk a, FOK f := by
  intro f hf
  simp only [bk, List.mem_map, List.mem_reverse] at hf
  obtain ⟨g, hg, rfl⟩ := hf
  exact turn_ok (h g hg)
theorem bk_at {a : List Feat} {i : Nat} (hi : i ≤ a.length - 1) (h1 : 1 ≤ a.length) : fAt (bk a) (a.length - 1 - i) = turn (fAt a i) := by
  unfold fAt bk
  rw [List.getD_eq_getElem?_getD, List.getD_eq_getElem?_getD, List.getElem?_map, List.getElem?_reverse (by omega)]
  have e : a.length - 1 - (a.length - 1 - i) = i := by omega
  rw [e, List.getElem?_eq_getElem (by omega)]
  rfl
theorem l08Ok_ok {l : List Feat} (h : ∀ f ∈ l, FOK f) (h1 : 1 ≤ l.length) (h2 : l.length ≤ 384) : t_spec_l08Ok (some l) = some true := by
  have lp := loopT_first (step := s0_spec_l08Ok (some l)) l (fun _ _ => (none : Option Bool)) (.inl ()) .inr
    (fun k a ha => by
      have hk := get_lt ha
      have c : (k : Int) < (l.length : Nat) := by omega
      obtain ⟨h1, h2, h3, h4, h5, h6⟩ := h a (List.mem_of_getElem? ha)
      have f : t_spec_l08Feat a = some true := by simp [t_spec_l08Feat, within, h1, h2, h3, h4, h5, h6]
      unfold s0_spec_l08Ok
      simp only [Option.getD_some, c, decide_true, cond_true, getI_nat ha, obind_sm, f, Bool.not_true, cond_false, wr_succ hk (by omega)])
    (by
      unfold s0_spec_l08Ok
      simp only [Option.getD_some, Int.lt_irrefl, decide_false, cond_false])
  rw [firstL_none (fun _ _ _ => rfl)] at lp
  have wi : within (((l.length : Nat) : Int)) 1 384 = true := by simp [within]; omega
  unfold t_spec_l08Ok
  simp [lp, wi]
theorem back_ok {a : List Feat} (h : ∀ f ∈ a, FOK f) (h1 : 1 ≤ a.length) (h2 : a.length ≤ 384) : t_spec_BackFeats (some a) = some (some (bk a), 0) := by
  have lp := loopT_at (step := s0_spec_BackFeats (some a)) a.length (fun k => (some ((bk a).take k), (a.length : Int) - 1 - (k : Int))) (some (bk a))
    (fun k hk => by
      have c : (0 : Int) ≤ (a.length : Int) - 1 - (k : Int) := by omega
      have ci : (a.length : Int) - 1 - (k : Int) = ((a.length - 1 - k : Nat) : Int) := by omega
      have g := getI_fAt (l := a) (i := a.length - 1 - k) (by omega)
      have w : wr ((a.length : Int) - 1 - (k : Int) - 1) = (a.length : Int) - 1 - ((k + 1 : Nat) : Int) := by rw [wr_id (by omega) (by omega)]; omega
      have ap := appO_some (s := some ((bk a).take k)) (l := [turn (fAt a (a.length - 1 - k))]) (by simp; omega)
      have ee : (bk a)[k]? = some (turn (fAt a (a.length - 1 - k))) := by
        have hb := bk_at (a := a) (i := a.length - 1 - k) (by omega) h1
        have e2 : a.length - 1 - (a.length - 1 - k) = k := by omega
        rw [e2] at hb
        rw [← hb]
        unfold fAt
        rw [List.getD_eq_getElem?_getD, List.getElem?_eq_getElem (by rw [bk_len]; exact hk)]
        rfl
      have e3 : appS (some ((bk a).take k)) [turn (fAt a (a.length - 1 - k))] = some ((bk a).take (k + 1)) := by
        show some ((bk a).take k ++ [turn (fAt a (a.length - 1 - k))]) = _
        rw [List.take_add_one, ee]
        rfl
      unfold s0_spec_BackFeats
      rw [← ci] at g
      simp only [Option.getD_some, c, decide_true, cond_true, g, obind_sm, w]
      rw [show (⟨(fAt a (a.length - 1 - k)).x, (fAt a (a.length - 1 - k)).y, Int.tmod (wr ((fAt a (a.length - 1 - k)).d + 4)) 8⟩ : Feat) = turn (fAt a (a.length - 1 - k)) from rfl, ap, obind_sm, e3])
    (by
      have c : ¬ (0 : Int) ≤ (a.length : Int) - 1 - ((a.length : Nat) : Int) := by omega
      unfold s0_spec_BackFeats
      simp only [c, decide_false, cond_false]
      rw [List.take_of_length_le (by rw [bk_len]; exact Nat.le_refl _)])
    0 (Nat.zero_le _)
  have w0 : wr ((a.length : Int) - 1) = (a.length : Int) - 1 - ((0 : Nat) : Int) := by rw [wr_id (by omega) (by omega)]; omega
  unfold t_spec_BackFeats
  simp only [l08Ok_ok h h1 h2, obind_sm, Bool.not_true, cond_false, Option.getD_some, w0]
  rw [show (some ([] : List Feat)) = some ((bk a).take 0) from rfl, lp]
  rfl

/-- What a path costs is what the program says. -/
theorem pathCost_ok {a b : List Feat} (fa : ∀ f ∈ a, FOK f) (fb : ∀ f ∈ b, FOK f) (a1 : 1 ≤ a.length) (la : a.length ≤ 72) (b1 : 1 ≤ b.length) (lb : b.length ≤ 72) {l : List Pair} (P : PathOK l (a.length : Nat) (b.length : Nat)) (hl : l.length ≤ 1000)
    {R : Nat → Nat → Prop} (hR : ∀ p ∈ l, R p.i.toNat p.j.toNat) : ∃ s, t_impl_PathCost (some a) (some b) (some l) = some (s, 0) ∧ Pth (elC a b) R (a.length - 1) (b.length - 1) s := by
  have hne : l ≠ [] := by
    rintro rfl
    have := P.first
    simp at this
  have hp : 0 < l.length := List.length_pos_iff.2 hne
  have h0 : l[0]? = some ⟨0, 0⟩ := by rw [← P.first]; cases l <;> rfl
  have h9 : l[l.length - 1]? = some ⟨(a.length : Int) - 1, (b.length : Int) - 1⟩ := by rw [← P.last, List.getLast?_eq_getElem?]
  obtain ⟨s, h1, h2⟩ := loopT_ex (step := s0_impl_PathCost (some a) (some b) (some l)) (fun k s => s.2 = (k : Int) ∧ (k = 0 → s.1 = 0) ∧ ∀ k', k = k' + 1 → ∃ p, l[k']? = some p ∧ Pth (elC a b) R p.i.toNat p.j.toNat s.1) l.length
    (fun s => Pth (elC a b) R (a.length - 1) (b.length - 1) s)
    (fun k s hk hs => by
      obtain ⟨s, x⟩ := s
      obtain ⟨hx, hz, hs⟩ := hs
      simp only at hx hz hs
      subst hx
      have c : (k : Int) < ((l.length : Nat) : Int) := by omega
      obtain ⟨p, hp⟩ : ∃ p, l[k]? = some p := ⟨l[k], List.getElem?_eq_getElem hk⟩
      have pin := path_in P hp
      have ei : p.i = ((p.i.toNat : Nat) : Int) := by omega
      have ej : p.j = ((p.j.toNat : Nat) : Int) := by omega
      have ga := getI_fAt (l := a) (i := p.i.toNat) (by omega)
      have gb := getI_fAt (l := b) (i := p.j.toNat) (by omega)
      rw [← ei] at ga
      rw [← ej] at gb
      have fc := featCost_ok (fAt_ok fa p.i.toNat) (fAt_ok fb p.j.toNat)
      have hr := hR p (List.mem_of_getElem? hp)
      have new : Pth (elC a b) R p.i.toNat p.j.toNat (s + fcost (fAt a p.i.toNat) (fAt b p.j.toNat)) := by
        cases k with
        | zero =>
          rw [h0] at hp
          cases hp
          rw [hz rfl, Int.zero_add]
          exact .start hr
        | succ k =>
          obtain ⟨q, hq, hpt⟩ := hs k rfl
          have qin := path_in P hq
          obtain ⟨g1, g2, g3⟩ := chain_get P.steps hq hp
          have hne : ¬ (p.i = q.i ∧ p.j = q.j) := by
            rintro ⟨e1, e2⟩
            apply g3
            obtain ⟨p1, p2⟩ := p
            obtain ⟨q1, q2⟩ := q
            simp only at e1 e2
            rw [e1, e2]
          exact .step hpt (by unfold Pre; omega) hr
      have bd := new.bound (elC_le fa fb)
      have w : wr (s + fcost (fAt a p.i.toNat) (fAt b p.j.toNat)) = s + fcost (fAt a p.i.toNat) (fAt b p.j.toNat) := wr_id (by omega) (by omega)
      refine .inl ⟨(s + fcost (fAt a p.i.toNat) (fAt b p.j.toNat), ((k + 1 : Nat) : Int)), ?_, rfl, by omega, fun k' hk' => ?_⟩
      · unfold s0_impl_PathCost
        simp only [Option.getD_some, c, decide_true, cond_true, getI_nat hp, obind_sm, ga, gb, fc, w, wr_succ hk (by omega)]
      · have : k' = k := by omega
        subst this
        exact ⟨p, hp, new⟩)
    (fun s hs => by
      obtain ⟨s, x⟩ := s
      obtain ⟨hx, hz, hs⟩ := hs
      simp only at hx hz hs
      subst hx
      obtain ⟨p, hp, h⟩ := hs (l.length - 1) (by omega)
      rw [h9] at hp
      cases hp
      refine ⟨s, ?_, ?_⟩
      · unfold s0_impl_PathCost
        simp only [Option.getD_some, Int.lt_irrefl, decide_false, cond_false]
      · have e1 : ((a.length : Int) - 1).toNat = a.length - 1 := by omega
        have e2 : ((b.length : Int) - 1).toNat = b.length - 1 := by omega
        simpa only [e1, e2] using h)
    (s := (0, 0)) ⟨rfl, fun _ => rfl, fun k' h => by omega⟩
  refine ⟨s, ?_, h2⟩
  have v1 := validSeq_ok fa a1 la
  have v2 := validSeq_ok fb b1 lb
  have v3 := validPath_ok P (by omega) (by omega) (by omega)
  have pa : t_impl_pathable (some a) (some b) (some l) = some 0 := by
    unfold t_impl_pathable
    simp [v1, v2, v3]
  unfold t_impl_PathCost
  simp [pa, h1]

theorem opt_eq {B : Int} {C D : Nat → Nat → Int} {R S : Nat → Nat → Prop} {i j p q : Nat} {v w : Int} (h : Opt B C R i j v) (h' : Opt B D S p q w) (H : ∀ c, Pth C R i j c ↔ Pth D S p q c) : v = w := by
  rcases h with ⟨rfl, h1⟩ | ⟨h1, h2, h3⟩
  · rcases h' with ⟨rfl, h4⟩ | ⟨h4, h5, h6⟩
    · rfl
    · exact absurd ((H _).2 h5) (h1 _)
  · rcases h' with ⟨rfl, h4⟩ | ⟨h4, h5, h6⟩
    · exact absurd ((H _).1 h2) (h4 _)
    · have e1 := h3 _ ((H _).2 h5)
      have e2 := h6 _ ((H _).1 h2)
      omega
theorem siz_comm (x y : Int) : siz (x - y) = siz (y - x) := by
  unfold siz
  split <;> split <;> omega
theorem el_swap {a b : List Feat} {band : Int} {i j : Nat} {c : Int} (h : Pth (elC a b) (elR band) i j c) : Pth (elC b a) (elR band) j i c :=
  h.swap.mono (fun p q _ _ hr => by show siz _ ≤ band; rw [siz_comm]; exact hr) (fun p q _ _ => fcost_comm _ _)
theorem el_wide {a b : List Feat} {band : Int} {i j : Nat} {c : Int} (hb : band ≤ 72) (h : Pth (elC a b) (elR band) i j c) : Pth (elC a b) (elR 72) i j c :=
  h.mono (fun p q _ _ hr => Int.le_trans hr hb) (fun _ _ _ _ => rfl)
theorem el_in {N M : Nat} (hN : N ≤ 72) (hM : M ≤ 72) (i j : Nat) (hi : i ≤ N) (hj : j ≤ M) : elR 72 i j := by
  show siz _ ≤ 72
  unfold siz
  split <;> omega
theorem el_back {a b : List Feat} (fa : ∀ f ∈ a, FOK f) (fb : ∀ f ∈ b, FOK f) (a1 : 1 ≤ a.length) (la : a.length ≤ 72) (b1 : 1 ≤ b.length) (lb : b.length ≤ 72) (c : Int) : Pth (elC a b) (elR 72) (a.length - 1) (b.length - 1) c ↔ Pth (elC (bk a) (bk b)) (elR 72) (a.length - 1) (b.length - 1) c := by
  have hD : ∀ i j, i ≤ a.length - 1 → j ≤ b.length - 1 → elC (bk a) (bk b) (a.length - 1 - i) (b.length - 1 - j) = elC a b i j := by
    intro i j hi hj
    show fcost _ _ = fcost _ _
    rw [bk_at hi a1, bk_at hj b1, fcost_turn (fAt_ok fa i) (fAt_ok fb j)]
  have hS := el_in (N := a.length - 1) (M := b.length - 1) (by omega) (by omega)
  constructor
  · intro h
    exact h.rev hD hS
  · intro h
    refine h.rev (fun i j hi hj => ?_) hS
    have := hD (a.length - 1 - i) (b.length - 1 - j) (by omega) (by omega)
    have e1 : a.length - 1 - (a.length - 1 - i) = i := by omega
    have e2 : b.length - 1 - (b.length - 1 - j) = j := by omega
    rw [e1, e2] at this
    exact this.symm
theorem true_FnElastic (code more : Sl UInt8) : t_laws_FnElastic code more = some true := by
  unfold t_laws_FnElastic t_laws_a2Long
  by_cases c1 : 3000 < (((code.getD []).length : Nat) : Int)
  · simp [c1]
  by_cases c2 : 3000 < (((more.getD []).length : Nat) : Int)
  · simp [c1, c2]
  obtain ⟨a, b, band, e1, T⟩ := two_ex code
  have a1 := T.a1
  have a2 := T.a2
  have b1 := T.b1
  have b2 := T.b2
  have d1 := T.d1
  have d2 := T.d2
  have p1 := T.b0
  have p2 := T.b3
  obtain ⟨path, e2, P, hl⟩ := path_ex more (n := (a.length : Nat)) (m := (b.length : Nat)) (by omega) (by omega) (by omega) (by omega)
  obtain ⟨v1, E1, o1⟩ := elastic_ok (band := band) T.fa T.fb a1 (by omega) b1 (by omega) p1 (by omega) d1 d2
  obtain ⟨v2, E2, o2⟩ := elastic_ok (band := band) T.fb T.fa b1 (by omega) a1 (by omega) p1 (by omega) d2 d1
  obtain ⟨v3, E3, o3⟩ := elastic_ok (band := 0) T.fa T.fa a1 (by omega) a1 (by omega) (by omega) (by omega) (by omega) (by omega)
  obtain ⟨v4, E4, o4⟩ := elastic_ok (band := 72) T.fa T.fb a1 (by omega) b1 (by omega) (by omega) (by omega) (by omega) (by omega)
  obtain ⟨v5, E5, o5⟩ := elastic_ok (band := 72) (bk_ok T.fa) (bk_ok T.fb) (by rw [bk_len]; omega) (by rw [bk_len]; omega) (by rw [bk_len]; omega) (by rw [bk_len]; omega) (by omega) (by omega) (by rw [bk_len, bk_len]; omega) (by rw [bk_len, bk_len]; omega)
  have B1 := back_ok T.fa a1 (by omega)
  have B2 := back_ok T.fb b1 (by omega)
  obtain ⟨s, E6, h6⟩ := pathCost_ok T.fa T.fb a1 (by omega) b1 (by omega) P (by omega) (R := elR 72) (fun p hp => by
    obtain ⟨k, hk⟩ := List.mem_iff_getElem?.1 hp
    have := path_in P hk
    exact el_in (N := a.length - 1) (M := b.length - 1) (by omega) (by omega) _ _ (by omega) (by omega))
  have V := validPath_ok P (by omega) (by omega) (by omega)
  have q1 : v1 = v2 := opt_eq o1 o2 fun c => ⟨el_swap, el_swap⟩
  have q2 : v3 = 0 := by
    have hd := Pth.diag (C := elC a a) (R := elR 0) (fun i => fcost_self _) (fun i => by show siz _ ≤ 0; unfold siz; split <;> omega) (a.length - 1)
    have h1 := o3.of hd
    have h2 := h1.2.1.bound (elC_le T.fa T.fa)
    omega
  have q3 : ¬ v1 < v4 := by
    rcases o1 with ⟨h, _⟩ | ⟨_, h, _⟩
    · have := o4.le
      omega
    · have := (o4.of (el_wide (by omega) h)).1
      omega
  have q4 : v5 = v4 := by
    rw [bk_len, bk_len] at o5
    exact (opt_eq o4 o5 (el_back T.fa T.fb a1 (by omega) b1 (by omega))).symm
  have q5 : v4 ≤ s := (o4.of h6).1
  subst q1 q2 q4
  simp [c1, c2, e1, E1, E2, E3, E4, E5, B1, B2, e2, E6, V, q3, q5]

/-- A path read from its end on, with its cost. -/
inductive Tr (C : Nat → Nat → Int) (R : Nat → Nat → Prop) : Nat → Nat → Int → List Pair → Prop
  | start : R 0 0 → Tr C R 0 0 (C 0 0) [⟨0, 0⟩]
  | step {p q i j : Nat} {c : Int} {L : List Pair} : Tr C R p q c L → Pre p q i j → R i j → Tr C R i j (c + C i j) (⟨(i : Int), (j : Int)⟩ :: L)
def csum (C : Nat → Nat → Int) : List Pair → Int
  | [] => 0
  | p :: l => C p.i.toNat p.j.toNat + csum C l
theorem csum_app (C : Nat → Nat → Int) (l r : List Pair) : csum C (l ++ r) = csum C l + csum C r := by
  induction l with
  | nil => simp [csum]
  | cons p l ih =>
    show C p.i.toNat p.j.toNat + csum C (l ++ r) = C p.i.toNat p.j.toNat + csum C l + csum C r
    rw [ih]
    omega
theorem Tr.head {C : Nat → Nat → Int} {R : Nat → Nat → Prop} {i j : Nat} {c : Int} {L : List Pair} (h : Tr C R i j c L) : ∃ L', L = ⟨(i : Int), (j : Int)⟩ :: L' := by
  cases h with
  | start h => exact ⟨[], rfl⟩
  | step h1 h2 h3 => exact ⟨_, rfl⟩
theorem Tr.path {C : Nat → Nat → Int} {R : Nat → Nat → Prop} {i j : Nat} {c : Int} {L : List Pair} (h : Tr C R i j c L) :
    PathOK L.reverse ((i : Int) + 1) ((j : Int) + 1) ∧ csum C L.reverse = c ∧ L.length ≤ i + j + 1 ∧ ∀ p ∈ L, R p.i.toNat p.j.toNat := by
  induction h with
  | start h =>
    refine ⟨⟨rfl, rfl, trivial⟩, ?_, by simp, ?_⟩
    · simp [csum]
    · intro p hp
      simp only [List.mem_singleton] at hp
      subst hp
      exact h
  | @step p q i j c L h1 h2 h3 ih =>
    obtain ⟨⟨i1, i2, i3⟩, i4, i5, i6⟩ := ih
    obtain ⟨L', rfl⟩ := h1.head
    have hs : stepOK ⟨(p : Int), (q : Int)⟩ ⟨(i : Int), (j : Int)⟩ := by
      unfold Pre at h2
      refine ⟨by simp only; omega, by simp only; omega, pair_ne (by omega)⟩
    rw [List.reverse_cons]
    refine ⟨⟨?_, ?_, ?_⟩, ?_, ?_, ?_⟩
    · rw [List.head?_append, i1]
      rfl
    · rw [List.getLast?_append]
      simp
    · refine chain_app i3 ?_ hs
      rw [List.getLast?_reverse]
      rfl
    · rw [csum_app, i4]
      simp [csum]
    · unfold Pre at h2
      simp only [List.length_cons] at *
      omega
    · intro x hx
      rcases List.mem_cons.1 hx with rfl | hx
      · simpa using h3
      · exact i6 x hx
/-- The pair ahead that is chosen. -/
theorem choose_ok {T : List (Sl Int)} {i j : Nat} {w : Int} (hi : i ≤ 1000000) (hj : j ≤ 1000000) (hT : ∀ p q, Pre p q i j → ∃ v, Val T p q v) (hw : ∃ p q, Pre p q i j ∧ Val T p q w) :
    ∃ p q : Nat, loopT (s1_impl_ElasticPath (some T) w ⟨1, 1, 1, 0, 0, 1⟩) ((i : Int), (j : Int), 0) = some ((p : Int), (q : Int)) ∧ Pre p q i j ∧ Val T p q w := by
  have uniq : ∀ {p q : Nat} {v v' : Int}, Val T p q v → Val T p q v' → v = v' := by
    rintro p q v v' ⟨r, h1, h2⟩ ⟨r', h3, h4⟩
    rw [h1] at h3
    cases h3
    rw [h2] at h4
    cases h4
    rfl
  have round : ∀ (k d0 d1 : Nat), k < 3 → getI [(⟨1, 1⟩ : Ar2), ⟨1, 0⟩, ⟨0, 1⟩] (k : Int) = some ⟨(d0 : Int), (d1 : Int)⟩ → (0 < d0 + d1 ∧ d0 ≤ 1 ∧ d1 ≤ 1) →
      (∃ p q : Nat, s1_impl_ElasticPath (some T) w ⟨1, 1, 1, 0, 0, 1⟩ ((i : Int), (j : Int), (k : Int)) = some (.inr ((p : Int), (q : Int))) ∧ Pre p q i j ∧ Val T p q w) ∨
      (s1_impl_ElasticPath (some T) w ⟨1, 1, 1, 0, 0, 1⟩ ((i : Int), (j : Int), (k : Int)) = some (.inl ((i : Int), (j : Int), ((k + 1 : Nat) : Int))) ∧ ∀ p q, i = p + d0 → j = q + d1 → ¬ Val T p q w) := by
    intro k d0 d1 hk hg hd
    have c : (k : Int) < 3 := by omega
    have ws := wr_succ hk (by omega)
    by_cases c0 : d0 ≤ i
    · by_cases c1 : d1 ≤ j
      · have hp : Pre (i - d0) (j - d1) i j := by unfold Pre; omega
        obtain ⟨v, hv⟩ := hT _ _ hp
        have hv2 := hv
        obtain ⟨row, r1, r2⟩ := hv
        have D0 : decide ((d0 : Int) ≤ (i : Int)) = true := decide_eq_true (by omega)
        have D1 : decide ((d1 : Int) ≤ (j : Int)) = true := decide_eq_true (by omega)
        have w0 : wr ((i : Int) - (d0 : Int)) = ((i - d0 : Nat) : Int) := by rw [wr_id (by omega) (by omega)]; omega
        have w1 : wr ((j : Int) - (d1 : Int)) = ((j - d1 : Nat) : Int) := by rw [wr_id (by omega) (by omega)]; omega
        by_cases e : v = w
        · subst e
          refine .inl ⟨i - d0, j - d1, ?_, hp, hv2⟩
          unfold s1_impl_ElasticPath
          simp only [c, decide_true, cond_true, hg, obind_sm, D0, D1, Option.getD_some, w0, w1, getI_nat r1, getI_nat r2]
        · refine .inr ⟨?_, ?_⟩
          · unfold s1_impl_ElasticPath
            simp only [c, decide_true, cond_true, hg, obind_sm, D0, D1, Option.getD_some, w0, w1, getI_nat r1, getI_nat r2, e, decide_false, cond_false, ws]
          · intro p q e1 e2 h
            have ep : p = i - d0 := by omega
            have eq : q = j - d1 := by omega
            subst ep eq
            exact e (uniq hv2 h)
      · refine .inr ⟨?_, fun p q e1 e2 => by omega⟩
        have D0 : decide ((d0 : Int) ≤ (i : Int)) = true := decide_eq_true (by omega)
        have D1 : decide ((d1 : Int) ≤ (j : Int)) = false := decide_eq_false (by omega)
        unfold s1_impl_ElasticPath
        simp only [c, decide_true, cond_true, hg, obind_sm, D0, D1, cond_false, ws]
    · refine .inr ⟨?_, fun p q e1 e2 => by omega⟩
      have D0 : decide ((d0 : Int) ≤ (i : Int)) = false := decide_eq_false (by omega)
      unfold s1_impl_ElasticPath
      simp only [c, decide_true, cond_true, hg, obind_sm, D0, cond_false, ws]
  rcases round 0 1 1 (by omega) rfl (by omega) with ⟨p, q, e, h⟩ | ⟨e1, n1⟩
  · exact ⟨p, q, loopT_end (by simpa using e), h⟩
  rcases round 1 1 0 (by omega) rfl (by omega) with ⟨p, q, e, h⟩ | ⟨e2, n2⟩
  · exact ⟨p, q, by rw [loopT_next (by simpa using e1), loopT_end (by simpa using e)], h⟩
  rcases round 2 0 1 (by omega) rfl (by omega) with ⟨p, q, e, h⟩ | ⟨e3, n3⟩
  · exact ⟨p, q, by rw [loopT_next (by simpa using e1), loopT_next (by simpa using e2), loopT_end (by simpa using e)], h⟩
  obtain ⟨p, q, hp, hv⟩ := hw
  rcases hp with ⟨h1, h2⟩ | ⟨h1, h2⟩ | ⟨h1, h2⟩
  · exact absurd hv (n1 p q h1 h2)
  · exact absurd hv (n2 p q h1 (by omega))
  · exact absurd hv (n3 p q (by omega) h2)

theorem trace_ok {a b : List Feat} {band : Int} (fa : ∀ f ∈ a, FOK f) (fb : ∀ f ∈ b, FOK f) (la : a.length ≤ 100) (lb : b.length ≤ 100) {T : List (Sl Int)} (hT : Tbl a b band a.length 0 T) :
    ∀ (k i j : Nat) (v : Int), i + j ≤ k → i < a.length → j < b.length → Val T i j v → Opt far (elC a b) (elR band) i j v → v < far → ∀ acc : List Pair, acc.length ≤ 10000 - k → k ≤ 1000 →
      ∃ L, Tr (elC a b) (elR band) i j v (⟨(i : Int), (j : Int)⟩ :: L) ∧ loopT (s0_impl_ElasticPath (some T)) (some acc, (i : Int), (j : Int)) = some (some (acc ++ L)) := by
  have uniq : ∀ {p q : Nat} {v v' : Int}, Val T p q v → Val T p q v' → v = v' := by
    rintro p q v v' ⟨r, h1, h2⟩ ⟨r', h3, h4⟩
    rw [h1] at h3
    cases h3
    rw [h2] at h4
    cases h4
    rfl
  intro k
  induction k with
  | zero =>
    intro i j v hk hi hj hv ho hlt acc hacc _
    have i0 : i = 0 := by omega
    have j0 : j = 0 := by omega
    subst i0 j0
    rcases (ho.path hlt).inv with ⟨_, _, e, hr⟩ | ⟨p, q, c', _, hp, _⟩
    · subst e
      refine ⟨[], .start hr, ?_⟩
      have e : s0_impl_ElasticPath (some T) (some acc, ((0 : Nat) : Int), ((0 : Nat) : Int)) = some (.inr (some acc)) := rfl
      rw [loopT_end e, List.append_nil]
    · unfold Pre at hp
      omega
  | succ k ih =>
    intro i j v hk hi hj hv ho hlt acc hacc hk2
    by_cases z : i = 0 ∧ j = 0
    · exact ih i j v (by omega) hi hj hv ho hlt acc (by omega) (by omega)
    · have hpre : ∀ p q, Pre p q i j → p < a.length ∧ q < b.length ∧ p + q < i + j := by
        intro p q hp
        unfold Pre at hp
        omega
      have hval : ∀ p q, Pre p q i j → ∃ v, Val T p q v ∧ Opt far (elC a b) (elR band) p q v := fun p q hp => hT.val p q (hpre p q hp).2.1 (.inl (hpre p q hp).1)
      have hv1 : ∀ p q, Pre p q i j → ∃ v, Val T p q v := fun p q hp => by
        obtain ⟨v, h, _⟩ := hval p q hp
        exact ⟨v, h⟩
      obtain ⟨bef, e1, l1, o1, m1⟩ := least_ok (T := T) (i := i) (j := j) (by omega) (by omega) hv1
      -- the path of least cost comes over a pair whose cost is not far
      obtain ⟨p0, q0, c0, hp0, hpre0, hr, ev⟩ : ∃ p q c', Pth (elC a b) (elR band) p q c' ∧ Pre p q i j ∧ elR band i j ∧ v = c' + elC a b i j := by
        rcases (ho.path hlt).inv with ⟨h1, h2, _⟩ | h
        · exact absurd ⟨h1, h2⟩ z
        · exact h
      obtain ⟨u0, hu0, ou0⟩ := hval p0 q0 hpre0
      have lu0 := ou0.of hp0
      have lb0 := m1 p0 q0 u0 hpre0 hu0
      have hlt2 : bef < far := by omega
      have hw := o1.resolve_left (by omega)
      obtain ⟨p, q, e2, hp, hvp⟩ := choose_ok (T := T) (i := i) (j := j) (by omega) (by omega) hv1 hw
      have hop : Opt far (elC a b) (elR band) p q bef := by
        obtain ⟨u, hu, ou⟩ := hval p q hp
        rw [uniq hvp hu]
        exact ou
      have hP := hpre p q hp
      obtain ⟨L, hL, e3⟩ := ih p q bef (by omega) hP.1 hP.2.1 hvp hop hlt2 (acc ++ [⟨(p : Int), (q : Int)⟩]) (by simp; omega) (by omega)
      have ev2 : v = bef + elC a b i j := by
        have h1 := (ho.of (.step (hop.path hlt2) hp hr)).1
        omega
      refine ⟨⟨(p : Int), (q : Int)⟩ :: L, by rw [ev2]; exact .step hL hp hr, ?_⟩
      have ap := appO_some (s := some acc) (l := [(⟨(p : Int), (q : Int)⟩ : Pair)]) (by simp; omega)
      have e : s0_impl_ElasticPath (some T) (some acc, (i : Int), (j : Int)) = some (.inl (some (acc ++ [⟨(p : Int), (q : Int)⟩]), (p : Int), (q : Int))) := by
        unfold s0_impl_ElasticPath t_impl_stepsBack
        by_cases ci : (0 : Int) < (i : Int)
        · simp only [ci, decide_true, cond_true, obind_sm, e1, e2, ap]
          rfl
        · have cj : (0 : Int) < (j : Int) := by omega
          simp only [ci, cj, decide_true, decide_false, cond_true, cond_false, obind_sm, e1, e2, ap]
          rfl
      rw [loopT_next e, e3, List.append_assoc]
      rfl
/-- The path that is told: it has the least cost. -/
theorem elPath_ok {a b : List Feat} {band : Int} (fa : ∀ f ∈ a, FOK f) (fb : ∀ f ∈ b, FOK f) (a1 : 1 ≤ a.length) (la : a.length ≤ 72) (b1 : 1 ≤ b.length) (lb : b.length ≤ 72) (hb : 0 ≤ band) (hb2 : band ≤ 72)
    (d1 : (a.length : Int) - b.length ≤ band) (d2 : (b.length : Int) - a.length ≤ band) {v c : Int} (ho : Opt far (elC a b) (elR band) (a.length - 1) (b.length - 1) v) (hc : Pth (elC a b) (elR band) (a.length - 1) (b.length - 1) c) :
    ∃ l, t_impl_ElasticPath (some a) (some b) band = some (some l, 0) ∧ PathOK l (a.length : Nat) (b.length : Nat) ∧ csum (elC a b) l = v ∧ l.length ≤ 200 ∧ ∀ p ∈ l, elR band p.i.toNat p.j.toNat := by
  obtain ⟨T, e, h⟩ := table_ok (band := band) fa fb (by omega) (by omega) hb
  obtain ⟨u, hu, ou⟩ := h.val (a.length - 1) (b.length - 1) (by omega) (by omega)
  have euv : v = u := opt_eq ho ou fun _ => Iff.rfl
  subst euv
  have hlt := (ho.of hc).2.2
  obtain ⟨L, hL, e2⟩ := trace_ok fa fb (by omega) (by omega) h 200 (a.length - 1) (b.length - 1) v (by omega) (by omega) (by omega) hu ho hlt [⟨((a.length - 1 : Nat) : Int), ((b.length - 1 : Nat) : Int)⟩] (by simp) (by omega)
  obtain ⟨P, hs, hl, hR⟩ := hL.path
  have ea : ((a.length - 1 : Nat) : Int) + 1 = ((a.length : Nat) : Int) := by omega
  have eb : ((b.length - 1 : Nat) : Int) + 1 = ((b.length : Nat) : Int) := by omega
  rw [ea, eb] at P
  have ll : ((⟨((a.length - 1 : Nat) : Int), ((b.length - 1 : Nat) : Int)⟩ : Pair) :: L).length ≤ 150 := by omega
  revert P hs hR ll e2
  rw [show [(⟨((a.length - 1 : Nat) : Int), ((b.length - 1 : Nat) : Int)⟩ : Pair)] ++ L = ⟨((a.length - 1 : Nat) : Int), ((b.length - 1 : Nat) : Int)⟩ :: L from rfl]
  generalize ((⟨((a.length - 1 : Nat) : Int), ((b.length - 1 : Nat) : Int)⟩ : Pair) :: L) = B
  intro e2 P hs hR ll
  refine ⟨B.reverse, ?_, P, hs, by rw [List.length_reverse]; omega, fun p hp => hR p (List.mem_reverse.1 hp)⟩
  have w1 : wr ((a.length : Int) - 1) = ((a.length - 1 : Nat) : Int) := by rw [wr_id (by omega) (by omega)]; omega
  have w2 : wr ((b.length : Int) - 1) = ((b.length - 1 : Nat) : Int) := by rw [wr_id (by omega) (by omega)]; omega
  have w3 : wr ((a.length : Int) - b.length) = (a.length : Int) - b.length := wr_id (by omega) (by omega)
  have q := absI_siz (x := (a.length : Int) - b.length) (by omega) (by omega)
  have q2 : siz ((a.length : Int) - b.length) ≤ band := by unfold siz; split <;> omega
  have wi : within band 0 72 = true := by simp [within]; omega
  have v1 := validSeq_ok fa a1 la
  have v2 := validSeq_ok fb b1 lb
  have ma : t_impl_matchable (some a) (some b) band = some 0 := by
    unfold t_impl_matchable t_impl_isBand
    simp [v1, v2, wi, w3, q, q2]
  have mk : makeO (⟨0, 0⟩ : Pair) ((B.length : Nat) : Int) = some (List.replicate B.length ⟨0, 0⟩) := by
    unfold makeO
    rw [if_pos ⟨by omega, by omega⟩, Int.toNat_natCast]
  -- the list is turned
  obtain ⟨r, e4, e5⟩ := loopT_ex (step := s2_impl_ElasticPath (some B)) (fun k s => s.2 = (k : Int) ∧ ∃ W : List Pair, s.1 = some W ∧ W.length = B.length ∧ ∀ x, x < k → W[B.length - 1 - x]? = B[x]?) B.length (fun r => r = some B.reverse)
    (fun k s hk hs => by
      obtain ⟨s, y⟩ := s
      obtain ⟨hy, W, hW, hwl, hw⟩ := hs
      simp only at hy hW
      subst hy hW
      have c : (k : Int) < ((B.length : Nat) : Int) := by omega
      obtain ⟨x, hx⟩ : ∃ x, B[k]? = some x := ⟨B[k], List.getElem?_eq_getElem hk⟩
      have w4 : wr (wr ((B.length : Int) - 1) - (k : Int)) = ((B.length - 1 - k : Nat) : Int) := by rw [wr_id (by rw [wr_id] <;> omega) (by rw [wr_id] <;> omega), wr_id (by omega) (by omega)]; omega
      obtain ⟨y, hy⟩ : ∃ y, W[B.length - 1 - k]? = some y := ⟨W[B.length - 1 - k]'(by omega), List.getElem?_eq_getElem (by omega)⟩
      refine .inl ⟨(some (W.set (B.length - 1 - k) x), ((k + 1 : Nat) : Int)), ?_, rfl, _, rfl, by simp [hwl], fun z hz => ?_⟩
      · unfold s2_impl_ElasticPath
        simp only [Option.getD_some, c, decide_true, cond_true, getI_nat hx, obind_sm, w4, getI_nat hy, wr_succ hk (by omega), setS, Option.map_some, Int.toNat_natCast]
      · by_cases e : z = k
        · subst e
          rw [List.getElem?_set_self (by omega), hx]
        · rw [List.getElem?_set_ne (by omega)]
          exact hw z (by omega))
    (fun s hs => by
      obtain ⟨s, y⟩ := s
      obtain ⟨hy, W, hW, hwl, hw⟩ := hs
      simp only at hy hW
      subst hy hW
      refine ⟨some W, ?_, ?_⟩
      · unfold s2_impl_ElasticPath
        simp only [Option.getD_some, Int.lt_irrefl, decide_false, cond_false]
      · congr 1
        apply List.ext_getElem?
        intro x
        by_cases hx : x < B.length
        · rw [List.getElem?_reverse hx, ← hw (B.length - 1 - x) (by omega)]
          congr 1
          omega
        · rw [List.getElem?_eq_none (by omega), List.getElem?_eq_none (by rw [List.length_reverse]; omega)])
    (s := (some (List.replicate B.length ⟨0, 0⟩), 0)) ⟨rfl, _, rfl, by simp, fun x h => by omega⟩
  subst e5
  unfold t_impl_ElasticPath
  simp only [ma, obind_sm, decide_true, Bool.not_true, cond_false, e, Option.getD_some, w1, w2, e2, mk, e4]

theorem csum_le {a b : List Feat} (fa : ∀ f ∈ a, FOK f) (fb : ∀ f ∈ b, FOK f) : ∀ l : List Pair, 0 ≤ csum (elC a b) l ∧ csum (elC a b) l ≤ 1000 * (l.length : Int)
  | [] => by simp [csum]
  | p :: l => by
    have h1 := csum_le fa fb l
    have h2 := elC_le fa fb p.i.toNat p.j.toNat
    have e : csum (elC a b) (p :: l) = elC a b p.i.toNat p.j.toNat + csum (elC a b) l := rfl
    rw [e, List.length_cons]
    omega
theorem pathCost_sum {a b : List Feat} (fa : ∀ f ∈ a, FOK f) (fb : ∀ f ∈ b, FOK f) (a1 : 1 ≤ a.length) (la : a.length ≤ 72) (b1 : 1 ≤ b.length) (lb : b.length ≤ 72) {l : List Pair} (P : PathOK l (a.length : Nat) (b.length : Nat)) (hl : l.length ≤ 1000) :
    t_impl_PathCost (some a) (some b) (some l) = some (csum (elC a b) l, 0) := by
  have lp := loopT_at (step := s0_impl_PathCost (some a) (some b) (some l)) l.length (fun k => (csum (elC a b) (l.take k), (k : Int))) (csum (elC a b) l)
    (fun k hk => by
      have c : (k : Int) < ((l.length : Nat) : Int) := by omega
      obtain ⟨p, hp⟩ : ∃ p, l[k]? = some p := ⟨l[k], List.getElem?_eq_getElem hk⟩
      have pin := path_in P hp
      have ei : p.i = ((p.i.toNat : Nat) : Int) := by omega
      have ej : p.j = ((p.j.toNat : Nat) : Int) := by omega
      have ga := getI_fAt (l := a) (i := p.i.toNat) (by omega)
      have gb := getI_fAt (l := b) (i := p.j.toNat) (by omega)
      rw [← ei] at ga
      rw [← ej] at gb
      have fc := featCost_ok (fAt_ok fa p.i.toNat) (fAt_ok fb p.j.toNat)
      have e : csum (elC a b) (l.take (k + 1)) = csum (elC a b) (l.take k) + fcost (fAt a p.i.toNat) (fAt b p.j.toNat) := by
        rw [List.take_add_one, hp, csum_app]
        show _ + (fcost (fAt a p.i.toNat) (fAt b p.j.toNat) + 0) = _
        rw [Int.add_zero]
      have bd := csum_le fa fb (l.take (k + 1))
      have bl : (l.take (k + 1)).length ≤ 1000 := by rw [List.length_take]; omega
      have w : wr (csum (elC a b) (l.take k) + fcost (fAt a p.i.toNat) (fAt b p.j.toNat)) = csum (elC a b) (l.take (k + 1)) := by rw [e] at *; exact wr_id (by omega) (by omega)
      unfold s0_impl_PathCost
      simp only [Option.getD_some, c, decide_true, cond_true, getI_nat hp, obind_sm, ga, gb, fc, w, wr_succ hk (by omega)])
    (by
      unfold s0_impl_PathCost
      simp only [Option.getD_some, Int.lt_irrefl, decide_false, cond_false, List.take_length])
    0 (Nat.zero_le _)
  have v1 := validSeq_ok fa a1 la
  have v2 := validSeq_ok fb b1 lb
  have v3 := validPath_ok P (by omega) (by omega) (by omega)
  have pa : t_impl_pathable (some a) (some b) (some l) = some 0 := by
    unfold t_impl_pathable
    simp [v1, v2, v3]
  have lp' : loopT (s0_impl_PathCost (some a) (some b) (some l)) (0, 0) = some (csum (elC a b) l) := lp
  unfold t_impl_PathCost
  simp [pa, lp']
theorem l09Size_siz {n : Int} (h : -1000000 ≤ n) (h' : n ≤ 1000000) : t_spec_l09Size n = some (siz n) := by
  unfold t_spec_l09Size siz
  by_cases c : n < 0
  · have w : wr (-n) = -n := wr_id (by omega) (by omega)
    simp [c, w]
  · simp [c]
theorem specPath_ok {l : List Pair} {n m band : Int} (P : PathOK l n m) (hl : l.length ≤ 100000) (hn : n ≤ 73) (hm : m ≤ 73) (hb : ∀ p ∈ l, siz (p.i - p.j) ≤ band) : t_spec_ValidPath (some l) n m band = some true := by
  have hne : l ≠ [] := by
    rintro rfl
    have := P.first
    simp at this
  have hp : 0 < l.length := List.length_pos_iff.2 hne
  have h0 : l[0]? = some ⟨0, 0⟩ := by rw [← P.first]; cases l <;> rfl
  have g0 : getI l 0 = some ⟨0, 0⟩ := getI_nat (m := 0) h0
  have gl := getLast_get P.last (by omega)
  have hin := path_in P h0
  simp only at hin
  have w1 : wr (n - 1) = n - 1 := wr_id (by omega) (by omega)
  have w2 : wr (m - 1) = m - 1 := wr_id (by omega) (by omega)
  have lp := loopT_first (step := s0_spec_l09Path (some l) n m band) l (fun _ _ => (none : Option Bool)) (.inl ()) .inr
    (fun k a ha => by
      have hk := get_lt ha
      have c : (k : Int) < (l.length : Nat) := by omega
      have w := wr_succ hk (by omega)
      have ia := path_in P ha
      have b1 : wr (a.i - a.j) = a.i - a.j := wr_id (by omega) (by omega)
      have b2 := l09Size_siz (n := a.i - a.j) (by omega) (by omega)
      have b3 : ¬ band < siz (a.i - a.j) := by have := hb a (List.mem_of_getElem? ha); omega
      have r1 : within a.i 0 (n - 1) = true := by simp [within]; omega
      have r2 : within a.j 0 (m - 1) = true := by simp [within]; omega
      unfold s0_spec_l09Path
      by_cases k0 : k = 0
      · have kz : (k : Int) = 0 := by omega
        have D := decide_eq_true kz
        simp only [Option.getD_some, c, decide_true, cond_true, getI_nat ha, obind_sm, w1, w2, r1, r2, Bool.not_true, cond_false, b1, b2, b3, decide_false, D, w]
      · have D : decide ((k : Int) = 0) = false := decide_eq_false (by omega)
        have w3 : wr ((k : Int) - 1) = ((k - 1 : Nat) : Int) := by rw [wr_id (by omega) (by omega)]; omega
        obtain ⟨q, hq⟩ : ∃ q, l[k - 1]? = some q := ⟨l[k - 1], List.getElem?_eq_getElem (by omega)⟩
        have st := chain_get P.steps hq (by rw [Nat.sub_add_cancel (by omega)]; exact ha)
        obtain ⟨s1, s2, s3⟩ := st
        have iq := path_in P hq
        have d1 : wr (a.i - q.i) = a.i - q.i := wr_id (by omega) (by omega)
        have d2 : wr (a.j - q.j) = a.j - q.j := wr_id (by omega) (by omega)
        have d4 : within (a.i - q.i) 0 1 = true := by simp [within]; omega
        have d5 : within (a.j - q.j) 0 1 = true := by simp [within]; omega
        have d6 : decide (a = q) = false := decide_eq_false s3
        simp only [Option.getD_some, c, decide_true, cond_true, getI_nat ha, obind_sm, w1, w2, r1, r2, Bool.not_true, cond_false, b1, b2, b3, decide_false, D, w3, getI_nat hq, d1, d2, d4, d5, d6, w])
    (by
      unfold s0_spec_l09Path
      simp only [Option.getD_some, Int.lt_irrefl, decide_false, cond_false])
  rw [firstL_none (fun _ _ _ => rfl)] at lp
  have n1 : 1 ≤ n := by omega
  have m1 : 1 ≤ m := by omega
  have z : ¬ ((l.length : Nat) : Int) = 0 := by omega
  unfold t_spec_ValidPath t_spec_l09Path
  simp [n1, m1, g0, gl, w1, w2, lp, hne]

def rv (N M : Int) (l : List Pair) : List Pair := l.reverse.map fun p => ⟨N - p.i, M - p.j⟩
theorem rv_len (N M : Int) (l : List Pair) : (rv N M l).length = l.length := by simp [rv]
theorem rv_rv (N M : Int) (l : List Pair) : rv N M (rv N M l) = l := by
  unfold rv
  rw [← List.map_reverse, List.reverse_reverse, List.map_map]
  have e : ((fun p : Pair => (⟨N - p.i, M - p.j⟩ : Pair)) ∘ fun p : Pair => (⟨N - p.i, M - p.j⟩ : Pair)) = id := by
    funext p
    obtain ⟨i, j⟩ := p
    show (⟨N - (N - i), M - (M - j)⟩ : Pair) = ⟨i, j⟩
    rw [show N - (N - i) = i by omega, show M - (M - j) = j by omega]
  rw [e, List.map_id]
theorem rv_get {N M : Int} {l : List Pair} {k : Nat} (hk : k < l.length) : (rv N M l)[k]? = (l[l.length - 1 - k]?).map fun p => ⟨N - p.i, M - p.j⟩ := by
  unfold rv
  rw [List.getElem?_map, List.getElem?_reverse hk]
theorem rv_path {l : List Pair} {n m : Int} (P : PathOK l n m) : PathOK (rv (n - 1) (m - 1) l) n m := by
  have hne : l ≠ [] := by
    rintro rfl
    have := P.first
    simp at this
  have hp : 0 < l.length := List.length_pos_iff.2 hne
  refine ⟨?_, ?_, ?_⟩
  · unfold rv
    rw [List.head?_map, List.head?_reverse, P.last]
    simp
  · unfold rv
    rw [List.getLast?_map, List.getLast?_reverse, P.first]
    simp
  · apply chain_diag
    intro k p q h1 h2
    have hk := get_lt h2
    rw [rv_len] at hk
    rw [rv_get (by omega)] at h1 h2
    obtain ⟨p', hp', rfl⟩ := Option.map_eq_some_iff.1 h1
    obtain ⟨q', hq', rfl⟩ := Option.map_eq_some_iff.1 h2
    have st := chain_get P.steps hq' (by rw [← hp']; congr 1; omega)
    obtain ⟨s1, s2, s3⟩ := st
    have hn : ¬ (p'.i = q'.i ∧ p'.j = q'.j) := by
      rintro ⟨e1, e2⟩
      apply s3
      obtain ⟨p1, p2⟩ := p'
      obtain ⟨q1, q2⟩ := q'
      simp only at e1 e2
      rw [e1, e2]
    exact ⟨by simp only; omega, by simp only; omega, pair_ne (by omega)⟩
def sN (l : List Pair) : Sl Pair := if l = [] then none else some l
theorem sN_get (l : List Pair) : (sN l).getD [] = l := by
  unfold sN
  split
  · rename_i h
    rw [h]
    rfl
  · rfl
theorem reverse_ok {l : List Pair} {n m : Int} (P : PathOK l n m) (hl : l.length ≤ 1000) (hn : n ≤ 72) (hm : m ≤ 72) : t_impl_ReversePath (some l) = some (some (rv (n - 1) (m - 1) l), 0) := by
  have hne : l ≠ [] := by
    rintro rfl
    have := P.first
    simp at this
  have hp : 0 < l.length := List.length_pos_iff.2 hne
  have h0 : l[0]? = some ⟨0, 0⟩ := by rw [← P.first]; cases l <;> rfl
  have hin := path_in P h0
  simp only at hin
  have gl := getLast_get P.last (by omega)
  have V := validPath_ok P (by omega) (by omega) (by omega)
  have lp := loopT_at (step := s0_impl_ReversePath (some l) ⟨n - 1, m - 1⟩) l.length (fun k => (sN ((rv (n - 1) (m - 1) l).take k), (l.length : Int) - 1 - (k : Int))) (sN (rv (n - 1) (m - 1) l))
    (fun k hk => by
      have c : (0 : Int) ≤ (l.length : Int) - 1 - (k : Int) := by omega
      have ci : (l.length : Int) - 1 - (k : Int) = ((l.length - 1 - k : Nat) : Int) := by omega
      obtain ⟨x, hx⟩ : ∃ x, l[l.length - 1 - k]? = some x := ⟨l[l.length - 1 - k], List.getElem?_eq_getElem (by omega)⟩
      have ix := path_in P hx
      have g := getI_nat hx
      rw [← ci] at g
      have w : wr ((l.length : Int) - 1 - (k : Int) - 1) = (l.length : Int) - 1 - ((k + 1 : Nat) : Int) := by rw [wr_id (by omega) (by omega)]; omega
      have w1 : wr (n - 1 - x.i) = n - 1 - x.i := wr_id (by omega) (by omega)
      have w2 : wr (m - 1 - x.j) = m - 1 - x.j := wr_id (by omega) (by omega)
      have ap := appO_some (s := sN ((rv (n - 1) (m - 1) l).take k)) (l := [(⟨n - 1 - x.i, m - 1 - x.j⟩ : Pair)]) (by rw [sN_get]; simp; omega)
      have ee : (rv (n - 1) (m - 1) l)[k]? = some ⟨n - 1 - x.i, m - 1 - x.j⟩ := by rw [rv_get hk, hx]; rfl
      have e3 : appS (sN ((rv (n - 1) (m - 1) l).take k)) [(⟨n - 1 - x.i, m - 1 - x.j⟩ : Pair)] = sN ((rv (n - 1) (m - 1) l).take (k + 1)) := by
        have e4 : (rv (n - 1) (m - 1) l).take (k + 1) = (rv (n - 1) (m - 1) l).take k ++ [⟨n - 1 - x.i, m - 1 - x.j⟩] := by
          rw [List.take_add_one, ee]
          rfl
        rw [e4]
        unfold sN
        split
        · rename_i h
          rw [h]
          rfl
        · simp [appS]
      unfold s0_impl_ReversePath
      simp only [Option.getD_some, c, decide_true, cond_true, g, obind_sm, w, w1, w2, ap, e3])
    (by
      have c : ¬ (0 : Int) ≤ (l.length : Int) - 1 - ((l.length : Nat) : Int) := by omega
      unfold s0_impl_ReversePath
      simp only [c, decide_false, cond_false]
      rw [List.take_of_length_le (by rw [rv_len]; exact Nat.le_refl _)])
    0 (Nat.zero_le _)
  have w0 : wr ((l.length : Int) - 1) = (l.length : Int) - 1 - ((0 : Nat) : Int) := by rw [wr_id (by omega) (by omega)]; omega
  have nn : rv (n - 1) (m - 1) l ≠ [] := by
    intro h
    have := rv_len (n - 1) (m - 1) l
    rw [h] at this
    simp at this
    omega
  have en : sN (rv (n - 1) (m - 1) l) = some (rv (n - 1) (m - 1) l) := by unfold sN; rw [if_neg nn]
  have e0 : sN ((rv (n - 1) (m - 1) l).take 0) = none := rfl
  rw [en] at lp
  simp only [e0] at lp
  rw [← w0] at lp
  have z : ¬ ((l.length : Nat) : Int) = 0 := by omega
  have r1 : within (n - 1) 0 71 = true := by simp [within]; omega
  have r2 : within (m - 1) 0 71 = true := by simp [within]; omega
  have w3 : wr (n - 1 + 1) = n := by rw [wr_id (by omega) (by omega)]; omega
  have w4 : wr (m - 1 + 1) = m := by rw [wr_id (by omega) (by omega)]; omega
  unfold t_impl_ReversePath
  simp only [Option.getD_some, z, decide_false, cond_false, gl, obind_sm, r1, r2, w3, w4, V, Bool.not_true, lp]

theorem elR_of {band : Int} {i j : Nat} (h1 : (i : Int) - j ≤ band) (h2 : (j : Int) - i ≤ band) : elR band i j := by
  show siz _ ≤ band
  unfold siz
  split <;> omega
theorem band_path {C : Nat → Nat → Int} {band : Int} (hb : 0 ≤ band) : ∀ i j : Nat, (i : Int) - j ≤ band → (j : Int) - i ≤ band → ∃ c, Pth C (elR band) i j c
  | 0, 0, h1, h2 => ⟨_, .start (elR_of h1 h2)⟩
  | 0, j + 1, h1, h2 => by
    obtain ⟨c, h⟩ := band_path (C := C) hb 0 j (by omega) (by omega)
    exact ⟨_, .step h (by unfold Pre; omega) (elR_of h1 h2)⟩
  | i + 1, 0, h1, h2 => by
    obtain ⟨c, h⟩ := band_path (C := C) hb i 0 (by omega) (by omega)
    exact ⟨_, .step h (by unfold Pre; omega) (elR_of h1 h2)⟩
  | i + 1, j + 1, h1, h2 => by
    obtain ⟨c, h⟩ := band_path (C := C) hb i j (by omega) (by omega)
    exact ⟨_, .step h (by unfold Pre; omega) (elR_of h1 h2)⟩
theorem true_FnPaths (code : Sl UInt8) : t_laws_FnPaths code = some true := by
  unfold t_laws_FnPaths t_laws_a2Long
  by_cases c1 : 3000 < (((code.getD []).length : Nat) : Int)
  · simp [c1]
  obtain ⟨a, b, band, e1, T⟩ := two_ex code
  have a1 := T.a1
  have a2 := T.a2
  have b1 := T.b1
  have b2 := T.b2
  have d1 := T.d1
  have d2 := T.d2
  have p1 := T.b0
  have p2 := T.b3
  obtain ⟨v, E1, o1⟩ := elastic_ok (band := band) T.fa T.fb a1 (by omega) b1 (by omega) p1 (by omega) d1 d2
  obtain ⟨c, hc⟩ := band_path (C := elC a b) (band := band) p1 (a.length - 1) (b.length - 1) (by omega) (by omega)
  obtain ⟨l, E2, P, hs, hl, hR⟩ := elPath_ok (band := band) T.fa T.fb a1 (by omega) b1 (by omega) p1 (by omega) d1 d2 o1 hc
  have E3 := pathCost_sum T.fa T.fb a1 (by omega) b1 (by omega) P (by omega)
  rw [hs] at E3
  have E4 := reverse_ok P (by omega) (by omega) (by omega)
  have P2 := rv_path P
  have E5 := reverse_ok P2 (by rw [rv_len]; omega) (by omega) (by omega)
  rw [rv_rv] at E5
  have V1 := specPath_ok (band := band) P (by omega) (by omega) (by omega) (fun p hp => by
    obtain ⟨k, hk⟩ := List.mem_iff_getElem?.1 hp
    have := path_in P hk
    have hr := hR p hp
    have e1 : ((p.i.toNat : Nat) : Int) = p.i := by omega
    have e2 : ((p.j.toNat : Nat) : Int) = p.j := by omega
    have hr' : siz (((p.i.toNat : Nat) : Int) - ((p.j.toNat : Nat) : Int)) ≤ band := hr
    rw [e1, e2] at hr'
    exact hr')
  have V2 := specPath_ok (band := 72) P2 (by rw [rv_len]; omega) (by omega) (by omega) (fun p hp => by
    obtain ⟨k, hk⟩ := List.mem_iff_getElem?.1 hp
    have := path_in P2 hk
    unfold siz
    split <;> omega)
  have lp := loopT_first (step := s0_laws_FnPaths (some l, 0) (some l, 0)) l (fun _ _ => (none : Option Bool)) (.inl ()) .inr
    (fun k x hx => by
      have hk := get_lt hx
      have c : (k : Int) < (l.length : Nat) := by omega
      unfold s0_laws_FnPaths
      simp only [Option.getD_some, c, decide_true, cond_true, getI_nat hx, obind_sm, Bool.not_true, cond_false, wr_succ hk (by omega)])
    (by
      unfold s0_laws_FnPaths
      simp only [Option.getD_some, Int.lt_irrefl, decide_false, cond_false])
  rw [firstL_none (fun _ _ _ => rfl)] at lp
  simp [c1, e1, E1, E2, E3, E4, E5, V1, V2, lp]

theorem ok_laws_FnPaths : PureOK Try.prog n_laws_FnPaths (G1 (fun a : Sl UInt8 => Wt.big a) fun _ => bv true) := lawC1 tt_laws_FnPaths fun a _ => true_FnPaths a
theorem law_FnPaths (a : Sl UInt8) (ha : Row.fine a) : G1 (fun a : Sl UInt8 => Wt.big a) (fun _ => bv true) [enc a] = some (bv true) := G1_enc _ _ a (by simp [Wt.fb a ha])

theorem isC_5 {cs : List AV} (h : IsC Try.prog 5 cs) : ∃ x : UInt8, cs = Row.cells x ∧ Row.fine x := by
  obtain ⟨n, rfl, hn⟩ := IsC.intE Try.underlying5 h
  exact byte_of hn
theorem isC_22 {cs : List AV} (h : IsC Try.prog 22 cs) : ∃ x : (Sl UInt8), cs = Row.cells x ∧ Row.fine x := by
  rcases IsC.sliceE Try.underlying22 h with rfl | ⟨rows, rfl, h1, h2⟩
  · exact ⟨none, rfl, Sl.fineNil⟩
  · exact Sl.isC (by kernel_rfl) h1 fun row hr => isC_5 (h2 row hr)
theorem own : ownKnob Try.prog.godebug = none := by kernel_rfl
theorem laidOut : laidOutB Try.prog = true := by kernel_rfl

set_option maxRecDepth 100000 in
theorem holds : Rows.FnPathsSaid :=
  OpenClaim.holds_of_wide 4 Try.f4 rfl rfl rfl rfl rfl rfl rfl ⟨rfl, rfl, rfl, rfl, rfl⟩ rfl rfl rfl rfl rfl (by kernel_rfl) Try.func4 (by kernel_rfl)
    (of_decide_eq_true (by kernel_rfl)) (by unfold Func.isWrapper; rw [if_neg (by decide +kernel)]; exact ⟨rfl, rfl⟩)
    (fun os started H enc _ => law_lifted (C := Try.checked) (s := Rows.fnPathsSpec) own started (by kernel_rfl) Try.func4
      (ChangeSpec.witness6 (enc := enc) (C := Try.checked) false ⟨#[], #[.slice none 0 0], []⟩ 8 (by kernel_rfl) (by kernel_rfl) (by kernel_rfl) (by kernel_rfl))
      laidOut rfl (tb := 4) rfl Try.underlying4 (ts := [22, 5]) (by kernel_rfl)
      (fun ds h => by match ds, h with | [d0], _ => rfl)
      hb_laws_FnPaths ok_laws_FnPaths (by
    intro l h
    obtain ⟨a0, l0, rfl, g0, k0⟩ := h
    cases k0
    obtain ⟨b0, e0, w0⟩ := isC_22 (isV_one (by kernel_rfl) g0)
    obtain rfl := one_enc e0
    exact law_FnPaths b0 w0))
#print axioms holds
end Go.Proofs.Ytdfdmelcnjggfaa
