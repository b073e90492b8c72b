/-
  The law FnParts holds, for all arguments: it returns true, and its arguments read behind the call as before. No condition.
-/
import Derived.Test.YtdklppipegepdaaFnPartsPartA
import Derived.Test.YtdklppipegepdaaRows
namespace Go.Proofs.Ytdklppipegepdaa
open Go Go.Eng Go.Eng.Cod
set_option maxRecDepth 100000
set_option linter.unusedVariables false
set_option linter.unusedSimpArgs false

theorem ts_laws_FnParts (env : Nat → Contract) (he_impl_PartElastic : env n_impl_PartElastic = .pure (C2 (fun c : Int × Int × Int × Int => AV.tup [enc c.1, enc c.2.1, enc c.2.2.1, enc c.2.2.2]) t_impl_PartElastic)) (he_laws_a2Long : env n_laws_a2Long = .pure (C2 (fun c : Bool => enc c) t_laws_a2Long)) (he_spec_A2Feats : env n_spec_A2Feats = .pure (C1 (fun c : (Sl Feat) => rS c) t_spec_A2Feats)) (he_spec_Elastic : env n_spec_Elastic = .pure (C3 (fun c : Int × Int => AV.tup [enc c.1, enc c.2]) t_spec_Elastic)) (code_ : Sl UInt8) (more_ : Sl UInt8) : Sim (denFn Try.prog env n_laws_FnParts [Sl.enc code_, Sl.enc more_] []) (t_laws_FnParts code_ more_) fun c p => release p.2 depth p.1 = some ((fun c : Bool => enc c) c) := by
  have O := Hold.nil []
  generalize hB : (⟨[], []⟩ : Base) = B at O
  clear hB
  rw [e_laws_FnParts]
  unfold t_laws_FnParts
  refine sim_call2 he_laws_a2Long (snapD_enc _ _) (snapD_enc _ _) (fun c1 => ?_)
  refine sim_let2 (hand_plain (by rfl) _ _) ?_
  refine sim_cond (fun c2 => ?_) (fun c2 => ?_)
  · exact sim_ret (release_plain (by rfl) _)
  · refine sim_call1 he_spec_A2Feats (snapD_enc _ _) (fun c3 => ?_)
    refine sim_hand (A := Feat) O (fun x5 h6 O7 => ?_)
    replace O7 : Hold B h6 [(x5, obS (c3 : Sl Feat))] := O7
    refine sim_call1 he_spec_A2Feats (snapD_enc _ _) (fun c8 => ?_)
    refine sim_hand (A := Feat) O7 (fun x10 h11 O12 => ?_)
    replace O12 : Hold B h11 [(x5, obS (c3 : Sl Feat)), (x10, obS (c8 : Sl Feat))] := O12
    refine sim_call2 he_impl_PartElastic ((O12.tab (A := Feat) (s := c3) 0 rfl).snap) ((O12.tab (A := Feat) (s := c8) 1 rfl).snap) (fun c13 => ?_)
    refine sim_let2 (hand_plain (by rfl) _ _) ?_
    refine sim_let (v := iv c13.1) rfl ?_
    refine sim_let (v := iv c13.2.1) rfl ?_
    refine sim_let (v := iv c13.2.2.1) rfl ?_
    refine sim_let (v := iv c13.2.2.2) rfl ?_
    refine sim_let (v := bv (!decide (c13.2.2.2 = 0))) (aCmp_ne _ _) ?_
    refine sim_guardF (e := bv) (fun hb14 => ?_) (fun c15 => ?_)
    · refine sim_let (v := bv (decide (c13.2.1 < 0))) (aBin_lss _ _) ?_
      exact sim_ret rfl
    · refine sim_let (v := bv (bif !decide (c13.2.2.2 = 0) then true else c15)) (pick_b' _ _ _) ?_
      refine sim_guardF (e := bv) (fun hb16 => ?_) (fun c17 => ?_)
      · refine sim_let (v := bv (decide (c13.2.2.1 ≤ c13.2.1))) (aBin_geq _ _) ?_
        exact sim_ret rfl
      · refine sim_let (v := bv (bif (bif !decide (c13.2.2.2 = 0) then true else c15) then true else c17)) (pick_b' _ _ _) ?_
        refine sim_guardF (e := bv) (fun hb18 => ?_) (fun c19 => ?_)
        · refine sim_let (v := iv (((c8.getD []).length : Nat) : Int)) (O12.tab (A := Feat) (s := c8) 1 rfl).len ?_
          refine sim_let (v := bv (decide ((((c8.getD []).length : Nat) : Int) < c13.2.2.1))) (aBin_gtr _ _) ?_
          exact sim_ret rfl
        · refine sim_let (v := bv (bif (bif (bif !decide (c13.2.2.2 = 0) then true else c15) then true else c17) then true else c19)) (pick_b' _ _ _) ?_
          refine sim_cond (fun c20 => ?_) (fun c20 => ?_)
          · exact sim_ret (release_plain (by rfl) _)
          · refine sim_subO11 (A := Feat) (s := c8) O12 1 rfl (fun x21 s22 hq23 => ?_)
            refine sim_call3 he_spec_Elastic ((O12.tab (A := Feat) (s := c3) 0 rfl).snap) (hq23) (snapD_int _ _) (fun c24 => ?_)
            refine sim_let2 (hand_plain (by rfl) _ _) ?_
            refine sim_let (v := iv c24.1) rfl ?_
            refine sim_let (v := iv c24.2) rfl ?_
            refine sim_call3 he_spec_Elastic ((O12.tab (A := Feat) (s := c3) 0 rfl).snap) ((O12.tab (A := Feat) (s := c8) 1 rfl).snap) (snapD_int _ _) (fun c25 => ?_)
            refine sim_let2 (hand_plain (by rfl) _ _) ?_
            refine sim_let (v := iv c25.1) rfl ?_
            refine sim_let (v := iv c25.2) rfl ?_
            refine sim_build (A := Feat) O12 ([] : List Feat) rfl (by first | rfl | simp [aFillRows, zrows]) rfl (fun x26 h27 O28 => ?_)
            replace O28 : Hold B h27 [(x5, obS (c3 : Sl Feat)), (x10, obS (c8 : Sl Feat)), (x26, obS ((some ([] : List Feat)) : Sl Feat))] := O28
            refine sim_append (A := Feat) (s := (some ([] : List Feat))) O28 2 (c8.getD []) rfl (O28.src (A := Feat) (s := c8) 1 rfl) (by decide) (fun x31 h32 O33 => ?_)
            replace O33 : Hold B h32 [(x5, obS (c3 : Sl Feat)), (x10, obS (c8 : Sl Feat)), (x31, obS ((appS (some ([] : List Feat)) (c8.getD [])) : Sl Feat))] := O33
            refine sim_append (A := Feat) (s := (appS (some ([] : List Feat)) (c8.getD []))) O33 2 (c3.getD []) rfl (O33.src (A := Feat) (s := c3) 0 rfl) (by decide) (fun x36 h37 O38 => ?_)
            replace O38 : Hold B h37 [(x5, obS (c3 : Sl Feat)), (x10, obS (c8 : Sl Feat)), (x36, obS ((appS (appS (some ([] : List Feat)) (c8.getD [])) (c3.getD [])) : Sl Feat))] := O38
            refine sim_call2 he_impl_PartElastic ((O38.tab (A := Feat) (s := c3) 0 rfl).snap) ((O38.tab (A := Feat) (s := (appS (appS (some ([] : List Feat)) (c8.getD [])) (c3.getD []))) 2 rfl).snap) (fun c40 => ?_)
            refine sim_let2 (hand_plain (by rfl) _ _) ?_
            refine sim_let (v := iv c40.1) rfl ?_
            refine sim_let (v := iv c40.2.1) rfl ?_
            refine sim_let (v := iv c40.2.2.1) rfl ?_
            refine sim_let (v := iv c40.2.2.2) rfl ?_
            refine sim_let (v := bv (decide (c24.2 = 0))) (aCmp_eq _ _) ?_
            refine sim_guardT (e := bv) (fun hb41 => ?_) (fun c42 => ?_)
            · refine sim_let (v := bv (decide (c25.2 = 0))) (aCmp_eq _ _) ?_
              exact sim_ret rfl
            · refine sim_let (v := bv (bif decide (c24.2 = 0) then c42 else false)) (pick_b _ _ _) ?_
              refine sim_guardT (e := bv) (fun hb43 => ?_) (fun c44 => ?_)
              · refine sim_let (v := bv (decide (c13.1 = c24.1))) (aCmp_eq _ _) ?_
                exact sim_ret rfl
              · refine sim_let (v := bv (bif (bif decide (c24.2 = 0) then c42 else false) then c44 else false)) (pick_b _ _ _) ?_
                refine sim_guardT (e := bv) (fun hb45 => ?_) (fun c46 => ?_)
                · refine sim_let (v := bv (decide (c13.1 ≤ c25.1))) (aBin_leq _ _) ?_
                  exact sim_ret rfl
                · refine sim_let (v := bv (bif (bif (bif decide (c24.2 = 0) then c42 else false) then c44 else false) then c46 else false)) (pick_b _ _ _) ?_
                  refine sim_guardT (e := bv) (fun hb47 => ?_) (fun c48 => ?_)
                  · refine sim_let (v := bv (decide (c40.2.2.2 = 0))) (aCmp_eq _ _) ?_
                    exact sim_ret rfl
                  · refine sim_let (v := bv (bif (bif (bif (bif decide (c24.2 = 0) then c42 else false) then c44 else false) then c46 else false) then c48 else false)) (pick_b _ _ _) ?_
                    refine sim_guardT (e := bv) (fun hb49 => ?_) (fun c50 => ?_)
                    · refine sim_let (v := bv (decide (c40.1 = 0))) (aCmp_eq _ _) ?_
                      exact sim_ret rfl
                    · refine sim_let (v := bv (bif (bif (bif (bif (bif decide (c24.2 = 0) then c42 else false) then c44 else false) then c46 else false) then c48 else false) then c50 else false)) (pick_b _ _ _) ?_
                      exact sim_ret (release_plain (by rfl) _)
theorem tt_laws_FnParts : PureOK Try.prog n_laws_FnParts (C2 (fun c : Bool => enc c) t_laws_FnParts) := pureC2 (Econs tt_impl_PartElastic (Econs tt_laws_a2Long (Econs tt_spec_A2Feats (Econs tt_spec_Elastic E0)))) mixed hb_laws_FnParts fun code_ more_ => ts_laws_FnParts _ (by simp [envL]) (by simp [envL]) (by simp [envL]) (by simp [envL]) code_ more_

/-- The source has been read up to `k` at most. -/
structure SK (s : l00Src) (k : Int) : Prop where
  lo : 0 ≤ s.pos
  hi : s.pos ≤ k

theorem SK.mono {s : l00Src} {k k' : Int} (h : SK s k) (hk : k ≤ k') : SK s k' := ⟨h.lo, by have := h.hi; omega⟩

theorem and255 (a : Int) : 0 ≤ wr (IntKind.u64.wrap ((BitVec.ofInt 64 a &&& BitVec.ofInt 64 255).toNat : Nat)) ∧ wr (IntKind.u64.wrap ((BitVec.ofInt 64 a &&& BitVec.ofInt 64 255).toNat : Nat)) ≤ 255 := by
  have h1 : (BitVec.ofInt 64 a &&& BitVec.ofInt 64 255).toNat ≤ 255 := by
    rw [BitVec.toNat_and]
    have : (BitVec.ofInt 64 255).toNat = 255 := by decide
    rw [this]
    exact Nat.and_le_right
  generalize (BitVec.ofInt 64 a &&& BitVec.ofInt 64 255).toNat = r at h1
  have h2 : IntKind.u64.wrap (r : Int) = r := by
    simp only [IntKind.wrap, IntKind.bits, IntKind.signed]
    simp only [Bool.false_and, Bool.false_eq_true, if_false]
    omega
  rw [h2, wr_id (by omega) (by omega)]
  omega

theorem getI_in {A : Type} {l : List A} {i : Int} (h0 : 0 ≤ i) (h1 : i < (l.length : Nat)) : ∃ a, getI l i = some a ∧ l[i.toNat]? = some a := by
  obtain ⟨m, rfl⟩ := Int.eq_ofNat_of_zero_le h0
  have h2 : m < l.length := by omega
  exact ⟨l[m], getI_nat (List.getElem?_eq_getElem h2), by simp [h2]⟩

theorem remI_pos {a b : Int} (ha : 0 ≤ a) (hb : 0 < b) : ∃ r, remI a b = some r ∧ 0 ≤ r ∧ r < b := by
  refine ⟨a.tmod b, ?_, Int.tmod_nonneg b ha, Int.tmod_lt_of_pos a hb⟩
  have : ¬ b = 0 := by omega
  simp [remI, this]

theorem dr_next {s : l00Src} {k : Int} (h : SK s k) (hk : k ≤ 1000000000000) : ∃ r s', t_spec_l00Src_next s = some (r, s') ∧ SK s' (k + 1) ∧ 0 ≤ r ∧ r ≤ 255 := by
  obtain ⟨h1, h2⟩ := h
  have w : wr (s.pos + 1) = s.pos + 1 := wr_id (by omega) (by omega)
  have b1 := fun a => (and255 a).1
  have b2 := fun a => (and255 a).2
  unfold t_spec_l00Src_next
  rw [w]
  by_cases c : s.pos < ((s.code.getD []).length : Nat)
  · obtain ⟨a, ha, _⟩ := getI_in h1 c
    have c2 : s.pos + 1 ≤ ((s.code.getD []).length : Nat) := by omega
    have := a.toNat_lt
    simp only [c, decide_true, cond_true, ha, obind_sm, c2]
    exact ⟨_, _, rfl, ⟨by simp only; omega, by simp only; omega⟩, by omega, by omega⟩
  · have c2 : ¬ s.pos + 1 ≤ ((s.code.getD []).length : Nat) := by omega
    simp only [c, decide_false, cond_false, c2]
    exact ⟨_, _, rfl, ⟨by simp only; omega, by simp only; omega⟩, b1 _, b2 _⟩

theorem dr_pick {s : l00Src} {k : Int} (h : SK s k) (hk : k ≤ 100000000000) {n : Int} (hn : n ≤ 60000) : ∃ r s', t_spec_l00Src_pick s n = some (r, s') ∧ SK s' (k + 2) ∧ 0 ≤ r ∧ (1 ≤ n → r < n) ∧ (n ≤ 1 → r = 0) := by
  unfold t_spec_l00Src_pick
  by_cases c : n ≤ 1
  · simp only [c, decide_true, cond_true]
    exact ⟨0, _, rfl, ⟨h.lo, by have := h.hi; simp only; omega⟩, by omega, fun _ => by omega, fun _ => rfl⟩
  · obtain ⟨r1, s1, e1, k1, p1, q1⟩ := dr_next h (by omega)
    simp only [c, decide_false, cond_false]
    have e1' : t_spec_l00Src_next ⟨s.code, s.pos, s.seed⟩ = some (r1, s1) := e1
    rw [e1', obind_sm]
    by_cases c2 : 200 < n
    · obtain ⟨r2, s2, e2, k2, p2, q2⟩ := dr_next k1 (by omega)
      have e2' : t_spec_l00Src_next ⟨s1.code, s1.pos, s1.seed⟩ = some (r2, s2) := e2
      have w1 : wr (r1 * 256) = r1 * 256 := wr_id (by omega) (by omega)
      have w2 : wr (r1 * 256 + r2) = r1 * 256 + r2 := wr_id (by omega) (by omega)
      obtain ⟨q, e3, p3, q3⟩ := remI_pos (a := r1 * 256 + r2) (b := n) (by omega) (by omega)
      simp only [c2, decide_true, cond_true, e2', obind_sm, w1, w2, e3]
      exact ⟨_, _, rfl, ⟨k2.lo, by have := k2.hi; simp only; omega⟩, p3, fun _ => q3, fun h => False.elim h⟩
    · obtain ⟨q, e3, p3, q3⟩ := remI_pos (a := r1) (b := n) (by omega) (by omega)
      simp only [c2, decide_false, cond_false, e3, obind_sm]
      exact ⟨_, _, rfl, ⟨k1.lo, by have := k1.hi; simp only; omega⟩, p3, fun _ => q3, fun h => False.elim h⟩

/-- A feature that is one. -/
structure FOK (f : Feat) : Prop where
  x0 : 0 ≤ f.x
  x1 : f.x ≤ 255
  y0 : 0 ≤ f.y
  y1 : f.y ≤ 255
  d0 : 0 ≤ f.d
  d1 : f.d ≤ 7

theorem clip_ok {x : Int} (h : -1000 ≤ x) (h' : x ≤ 1000) : 0 ≤ max (0 : Int) (min 255 x) ∧ max (0 : Int) (min 255 x) ≤ 255 := by omega

theorem dr_feats {s : l00Src} {k : Int} (h : SK s k) (hk : k ≤ 1000000) {most : Int} (h1 : 1 ≤ most) (h2 : most ≤ 100) : ∃ l s', t_spec_l09Draw s most = some (some l, s') ∧ SK s' (k + 1000) ∧ 1 ≤ l.length ∧ (l.length : Int) ≤ most ∧ ∀ f ∈ l, FOK f := by
  obtain ⟨r1, s1, e1, k1, p1, q1, _⟩ := dr_pick h (by omega) (n := 256) (by omega)
  obtain ⟨r2, s2, e2, k2, p2, q2, _⟩ := dr_pick k1 (by omega) (n := 256) (by omega)
  obtain ⟨r3, s3, e3, k3, p3, q3, _⟩ := dr_pick k2 (by omega) (n := most) (by omega)
  have q1' := q1 (by omega)
  have q2' := q2 (by omega)
  have q3' := q3 h1
  have w1 : wr (1 + r3) = 1 + r3 := wr_id (by omega) (by omega)
  obtain ⟨N, hN⟩ := Int.eq_ofNat_of_zero_le (a := 1 + r3) (by omega)
  unfold t_spec_l09Draw
  simp only [e1, e2, e3, obind_sm, w1]
  obtain ⟨⟨c1, c2, c3, c4⟩, f1, l, f2, f3, f4, f5⟩ := loopT_ex (step := s0_spec_l09Draw) (fun i (t : (Sl UInt8) × Int × Int × (Sl Feat) × Int × Int × Int) => SK ⟨t.1, t.2.1, t.2.2.1⟩ (k + 6 + 6 * i) ∧ (∃ l, t.2.2.2.1 = some l ∧ l.length = i ∧ ∀ f ∈ l, FOK f) ∧ (0 ≤ t.2.2.2.2.1 ∧ t.2.2.2.2.1 ≤ 255) ∧ (0 ≤ t.2.2.2.2.2.1 ∧ t.2.2.2.2.2.1 ≤ 255) ∧ t.2.2.2.2.2.2 = N - (i : Int))
    N (fun r => ∃ l, r.2.2.2 = some l ∧ l.length = N ∧ (∀ f ∈ l, FOK f) ∧ SK ⟨r.1, r.2.1, r.2.2.1⟩ (k + 6 + 6 * N))
    (fun i ⟨t1, t2, t3, t4, t5, t6, t7⟩ hi ⟨g1, ⟨l, g2, g3, g4⟩, g5, g6, g7⟩ => by
      simp only at g1 g2 g3 g4 g5 g6 g7
      subst g2
      obtain ⟨r4, s4, e4, k4, p4, q4, _⟩ := dr_pick g1 (by omega) (n := 8) (by omega)
      obtain ⟨r5, s5, e5, k5, p5, q5, _⟩ := dr_pick k4 (by omega) (n := 61) (by omega)
      obtain ⟨r6, s6, e6, k6, p6, q6, _⟩ := dr_pick k5 (by omega) (n := 61) (by omega)
      have q4' := q4 (by omega)
      have q5' := q5 (by omega)
      have q6' := q6 (by omega)
      have a1 : wr (t5 + r5) = t5 + r5 := wr_id (by omega) (by omega)
      have a2 : wr (t5 + r5 - 30) = t5 + r5 - 30 := wr_id (by omega) (by omega)
      have a3 : wr (t6 + r6) = t6 + r6 := wr_id (by omega) (by omega)
      have a4 : wr (t6 + r6 - 30) = t6 + r6 - 30 := wr_id (by omega) (by omega)
      have a5 : wr (t7 - 1) = t7 - 1 := wr_id (by omega) (by omega)
      have c : 0 < t7 := by omega
      have ap := appO_some (s := some l) (l := [(⟨t5, t6, r4⟩ : Feat)]) (by simp; omega)
      have e : s0_spec_l09Draw (t1, t2, t3, some l, t5, t6, t7) = some (.inl (s6.code, s6.pos, s6.seed, some (l ++ [⟨t5, t6, r4⟩]), max 0 (min 255 (t5 + r5 - 30)), max 0 (min 255 (t6 + r6 - 30)), t7 - 1)) := by
        unfold s0_spec_l09Draw
        simp only [c, decide_true, cond_true, e4, e5, e6, obind_sm, ap, a1, a2, a3, a4, a5]
        rfl
      refine .inl ⟨_, e, k6.mono (by omega), ⟨_, rfl, by simp [g3], fun f hf => ?_⟩, clip_ok (by omega) (by omega), clip_ok (by omega) (by omega), by simp only; omega⟩
      rcases List.mem_append.1 hf with hf | hf
      · exact g4 f hf
      · have : f = ⟨t5, t6, r4⟩ := by simpa using hf
        subst this
        exact ⟨g5.1, g5.2, g6.1, g6.2, p4, by simp only; omega⟩)
    (fun ⟨t1, t2, t3, t4, t5, t6, t7⟩ ⟨g1, ⟨l, g2, g3, g4⟩, g5, g6, g7⟩ => by
      simp only at g1 g2 g3 g4 g5 g6 g7
      have c : ¬ 0 < t7 := by omega
      have e : s0_spec_l09Draw (t1, t2, t3, t4, t5, t6, t7) = some (.inr (t1, t2, t3, t4)) := by
        unfold s0_spec_l09Draw
        simp only [c, decide_false, cond_false]
      exact ⟨_, e, l, g2, g3, g4, g1⟩)
    (s := (s3.code, s3.pos, s3.seed, some [], r1, r2, 1 + r3)) ⟨k3.mono (by omega), ⟨[], rfl, rfl, fun f hf => by cases hf⟩, ⟨p1, by simp only; omega⟩, ⟨p2, by simp only; omega⟩, by simp only; omega⟩
  simp only at f2 f5
  subst f2
  rw [f1]
  exact ⟨l, _, rfl, f5.mono (by omega), by omega, by omega, f4⟩

/-- A path through two sequences of `n` and `m` elements: from the first pair to the last one by steps. -/
def stepOK (p q : Pair) : Prop := (q.i = p.i ∨ q.i = p.i + 1) ∧ (q.j = p.j ∨ q.j = p.j + 1) ∧ q ≠ p

def chain : List Pair → Prop
  | p :: q :: r => stepOK p q ∧ chain (q :: r)
  | _ => True

structure PathOK (l : List Pair) (n m : Int) : Prop where
  first : l.head? = some ⟨0, 0⟩
  last : l.getLast? = some ⟨n - 1, m - 1⟩
  steps : chain l

theorem pair_ne {a b c d : Int} (h : a ≠ c ∨ b ≠ d) : (⟨a, b⟩ : Pair) ≠ ⟨c, d⟩ := by
  intro e
  simp only [Pair.mk.injEq] at e
  rcases h with h | h
  · exact h e.1
  · exact h e.2

theorem chain_app {l : List Pair} {p q : Pair} (h : chain l) (hl : l.getLast? = some p) (hs : stepOK p q) : chain (l ++ [q]) := by
  induction l with
  | nil => simp at hl
  | cons a l ih =>
    cases l with
    | nil =>
      simp at hl
      subst hl
      exact ⟨hs, trivial⟩
    | cons b l => exact ⟨h.1, ih h.2 (by simpa [List.getLast?_cons_cons] using hl)⟩

theorem wr_succ {k n : Nat} (h : k < n) (hn : n ≤ 4294967296) : wr ((k : Int) + 1) = ((k + 1 : Nat) : Int) := by
  rw [wr_id (by omega) (by omega)]
  omega

theorem get_lt {A : Type} {l : List A} {k : Nat} {a : A} (h : l[k]? = some a) : k < l.length := (List.getElem?_eq_some_iff.1 h).1

theorem cf_Feat {p : Feat → Option Bool} {f : Feat → Bool} (l : List Feat) (hl : l.length ≤ 4294967296) (hp : ∀ a ∈ l, p a = some (f a)) : t_slices_ContainsFunc_impl_Feat_impl_Feat p (some l) = some (l.any f) := by
  unfold t_slices_ContainsFunc_impl_Feat_impl_Feat t_slices_IndexFunc_impl_Feat_impl_Feat
  have h := loopT_first (step := s0_slices_IndexFunc_impl_Feat_impl_Feat p (some l)) l (fun k a => bif f a then some (k : Int) else none) (.inl ()) .inr
    (fun k a ha => by
      have hk := get_lt ha
      have c : (k : Int) < (l.length : Nat) := by omega
      have w := wr_succ hk hl
      unfold s0_slices_IndexFunc_impl_Feat_impl_Feat
      simp only [Option.getD_some, c, decide_true, cond_true, getI_nat ha, obind_sm, hp a (List.mem_of_getElem? ha), w]
      cases f a <;> rfl)
    (by
      unfold s0_slices_IndexFunc_impl_Feat_impl_Feat
      simp only [Option.getD_some, Int.lt_irrefl, decide_false, cond_false])
  have key : ∀ (l : List Feat) (k : Nat) (x : Option Int), firstL (fun (k : Nat) a => bif f a then some (k : Int) else none) l k = x → (x = none ∧ l.any f = false) ∨ ∃ r, x = some r ∧ 0 ≤ r ∧ l.any f = true := by
    intro l
    induction l with
    | nil => intro k x hx; exact .inl ⟨hx.symm, rfl⟩
    | cons a l ih =>
      intro k x hx
      unfold firstL at hx
      cases e : f a with
      | true =>
        rw [e] at hx
        exact .inr ⟨(k : Int), hx.symm, by omega, by simp [e]⟩
      | false =>
        rw [e] at hx
        rcases ih (k + 1) x hx with h | ⟨r, h1, h2, h3⟩
        · exact .inl ⟨h.1, by simp [e, h.2]⟩
        · exact .inr ⟨r, h1, h2, by simp [e, h3]⟩
  rcases key l 0 _ rfl with ⟨h1, h2⟩ | ⟨r, h1, h2, h3⟩
  · rw [h1] at h
    simp [h, h2]
  · rw [h1] at h
    simp [h, h2, h3]

theorem validFeat_ok {f : Feat} (h : FOK f) : t_impl_ValidFeat f = some true := by
  obtain ⟨h1, h2, h3, h4, h5, h6⟩ := h
  simp [t_impl_ValidFeat, within, h1, h2, h3, h4, h5, h6]

theorem validSeq_ok {l : List Feat} (h : ∀ f ∈ l, FOK f) (h1 : 1 ≤ l.length) (h2 : l.length ≤ 72) : t_impl_ValidSeq (some l) = some true := by
  have c := cf_Feat (p := t_impl_areFeats_1) (f := fun _ => false) l (by omega) (fun a ha => by simp [t_impl_areFeats_1, validFeat_ok (h a ha)])
  have e : l.any (fun _ => false) = false := by simp
  rw [e] at c
  have c1 : (1 : Int) ≤ (l.length : Nat) := by omega
  have c2 : ((l.length : Nat) : Int) ≤ 72 := by omega
  simp [t_impl_ValidSeq, t_impl_areFeats, c, c1, c2]

/-- One pair lies ahead of another. -/
def Pre (p q i j : Nat) : Prop := (i = p + 1 ∧ j = q + 1) ∨ (i = p + 1 ∧ j = q) ∨ (i = p ∧ j = q + 1)

/-- A path's cost, from the first pair on. -/
inductive Pth (C : Nat → Nat → Int) (R : Nat → Nat → Prop) : Nat → Nat → Int → Prop
  | start : R 0 0 → Pth C R 0 0 (C 0 0)
  | step {p q i j : Nat} {c : Int} : Pth C R p q c → Pre p q i j → R i j → Pth C R i j (c + C i j)

theorem Pth.inv {C : Nat → Nat → Int} {R : Nat → Nat → Prop} {i j : Nat} {c : Int} (h : Pth C R i j c) : (i = 0 ∧ j = 0 ∧ c = C 0 0 ∧ R 0 0) ∨ ∃ p q c', Pth C R p q c' ∧ Pre p q i j ∧ R i j ∧ c = c' + C i j := by
  cases h with
  | start h => exact .inl ⟨rfl, rfl, rfl, h⟩
  | step h1 h2 h3 => exact .inr ⟨_, _, _, h1, h2, h3, rfl⟩

theorem Pth.bound {C : Nat → Nat → Int} {R : Nat → Nat → Prop} {K : Int} (hC : ∀ i j, 0 ≤ C i j ∧ C i j ≤ K) {i j : Nat} {c : Int} (h : Pth C R i j c) : 0 ≤ c ∧ c ≤ K * ((i + j + 1 : Nat) : Int) := by
  have hK : 0 ≤ K := Int.le_trans (hC 0 0).1 (hC 0 0).2
  induction h with
  | start h => have := hC 0 0; simp; omega
  | @step p q i j c h1 h2 h3 ih =>
    have := hC i j
    have e : K * ((p + q + 1 : Nat) : Int) + K ≤ K * ((i + j + 1 : Nat) : Int) := by
      have e1 : K * ((p + q + 1 : Nat) : Int) + K = K * ((p + q + 2 : Nat) : Int) := by
        have e2 : ((p + q + 2 : Nat) : Int) = ((p + q + 1 : Nat) : Int) + 1 := by omega
        rw [e2, Int.mul_add, Int.mul_one]
      rw [e1]
      apply Int.mul_le_mul_of_nonneg_left _ hK
      rcases h2 with h2 | h2 | h2 <;> omega
    omega

/-- The least cost of the paths to a pair, `B` where there is none. -/
def Opt (B : Int) (C : Nat → Nat → Int) (R : Nat → Nat → Prop) (i j : Nat) (v : Int) : Prop :=
  (v = B ∧ ∀ c, ¬ Pth C R i j c) ∨ (v < B ∧ Pth C R i j v ∧ ∀ c, Pth C R i j c → v ≤ c)

theorem Opt.of {B : Int} {C : Nat → Nat → Int} {R : Nat → Nat → Prop} {i j : Nat} {v : Int} (h : Opt B C R i j v) {c : Int} (hc : Pth C R i j c) : v ≤ c ∧ Pth C R i j v ∧ v < B := by
  rcases h with ⟨_, h⟩ | ⟨h1, h2, h3⟩
  · exact absurd hc (h c)
  · exact ⟨h3 c hc, h2, h1⟩

theorem Opt.path {B : Int} {C : Nat → Nat → Int} {R : Nat → Nat → Prop} {i j : Nat} {v : Int} (h : Opt B C R i j v) (hv : v < B) : Pth C R i j v := by
  rcases h with ⟨h, _⟩ | ⟨_, h, _⟩
  · omega
  · exact h

theorem opt_step {B K : Int} {C : Nat → Nat → Int} {R : Nat → Nat → Prop} (hC : ∀ i j, 0 ≤ C i j ∧ C i j ≤ K) {i j : Nat} (hB : K * ((i + j + 1 : Nat) : Int) < B) {b : Int} (h0 : ¬ (i = 0 ∧ j = 0)) (h1 : ∀ p q, Pre p q i j → ∃ v, Opt B C R p q v ∧ b ≤ v) (h2 : ∃ p q, Pre p q i j ∧ Opt B C R p q b) (hb : b < B) (hr : R i j) : Opt B C R i j (b + C i j) := by
  obtain ⟨p, q, h3, h4⟩ := h2
  have hp := Pth.step (h4.path hb) h3 hr
  have := hp.bound hC
  refine .inr ⟨by omega, hp, fun c hc => ?_⟩
  rcases hc.inv with ⟨h5, h6, _⟩ | ⟨p', q', c', h5, h6, h7, h8⟩
  · exact absurd ⟨h5, h6⟩ h0
  · obtain ⟨v, h9, h10⟩ := h1 p' q' h6
    have := (h9.of h5).1
    omega

theorem opt_start {B K : Int} {C : Nat → Nat → Int} {R : Nat → Nat → Prop} (hC : ∀ i j, 0 ≤ C i j ∧ C i j ≤ K) (hB : K < B) (hr : R 0 0) : Opt B C R 0 0 (C 0 0) := by
  have := hC 0 0
  refine .inr ⟨by omega, .start hr, fun c hc => ?_⟩
  rcases hc.inv with ⟨_, _, h, _⟩ | ⟨p, q, c', _, h, _⟩
  · omega
  · rcases h with h | h | h <;> omega

theorem Pth.mono {C D : Nat → Nat → Int} {R S : Nat → Nat → Prop} {i j : Nat} {c : Int} (h : Pth C R i j c) (hR : ∀ p q, p ≤ i → q ≤ j → R p q → S p q) (hC : ∀ p q, p ≤ i → q ≤ j → C p q = D p q) : Pth D S i j c := by
  induction h with
  | start h =>
    rw [hC 0 0 (Nat.le_refl _) (Nat.le_refl _)]
    exact .start (hR 0 0 (Nat.le_refl _) (Nat.le_refl _) h)
  | @step p q i j c h1 h2 h3 ih =>
    have hle : p ≤ i ∧ q ≤ j := by rcases h2 with h | h | h <;> omega
    rw [hC i j (Nat.le_refl _) (Nat.le_refl _)]
    exact .step (ih (fun a b h4 h5 => hR a b (by omega) (by omega)) (fun a b h4 h5 => hC a b (by omega) (by omega))) h2 (hR i j (Nat.le_refl _) (Nat.le_refl _) h3)

theorem Pth.diag {C : Nat → Nat → Int} {R : Nat → Nat → Prop} (h0 : ∀ i, C i i = 0) (hR : ∀ i, R i i) : ∀ n, Pth C R n n 0
  | 0 => by rw [← h0 0]; exact .start (hR 0)
  | n + 1 => by
    have := Pth.step (Pth.diag h0 hR n) (.inl ⟨rfl, rfl⟩) (hR (n + 1))
    rw [h0] at this
    exact this

def fAt (l : List Feat) (i : Nat) : Feat := l.getD i ⟨0, 0, 0⟩

def siz (x : Int) : Int := if x < 0 then -x else x

def fcost (a b : Feat) : Int := siz (a.x - b.x) + siz (a.y - b.y) + 16 * min (siz (a.d - b.d)) (8 - siz (a.d - b.d))

theorem absI_siz {x : Int} (h : -1000000 ≤ x) (h' : x ≤ 1000000) : absI x = siz x := by
  unfold absI siz
  by_cases c : x < 0
  · have w : wr (-x) = -x := wr_id (by omega) (by omega)
    simp [c, w]
  · simp [c]

theorem fAt_ok {l : List Feat} (h : ∀ f ∈ l, FOK f) (i : Nat) : FOK (fAt l i) := by
  unfold fAt
  rw [List.getD_eq_getElem?_getD]
  cases e : l[i]? with
  | none => exact ⟨by simp, by simp, by simp, by simp, by simp, by simp⟩
  | some f => exact h f (List.mem_of_getElem? e)

theorem getI_fAt {l : List Feat} {i : Nat} (h : i < l.length) : getI l (i : Int) = some (fAt l i) := by
  apply getI_nat
  unfold fAt
  rw [List.getD_eq_getElem?_getD, List.getElem?_eq_getElem h]
  rfl

theorem fcost_le {a b : Feat} (ha : FOK a) (hb : FOK b) : 0 ≤ fcost a b ∧ fcost a b ≤ 1000 := by
  obtain ⟨a1, a2, a3, a4, a5, a6⟩ := ha
  obtain ⟨b1, b2, b3, b4, b5, b6⟩ := hb
  unfold fcost siz
  split <;> split <;> split <;> omega

theorem fcost_self (a : Feat) : fcost a a = 0 := by
  unfold fcost siz
  split <;> split <;> split <;> omega

theorem featCost_ok {a b : Feat} (ha : FOK a) (hb : FOK b) : t_impl_featCost a b = some (fcost a b) := by
  have hc := fcost_le ha hb
  obtain ⟨a1, a2, a3, a4, a5, a6⟩ := ha
  obtain ⟨b1, b2, b3, b4, b5, b6⟩ := hb
  unfold t_impl_featCost
  have w1 : wr (a.d - b.d) = a.d - b.d := wr_id (by omega) (by omega)
  have w2 : wr (a.x - b.x) = a.x - b.x := wr_id (by omega) (by omega)
  have w3 : wr (a.y - b.y) = a.y - b.y := wr_id (by omega) (by omega)
  have q1 := absI_siz (x := a.d - b.d) (by omega) (by omega)
  have q2 := absI_siz (x := a.x - b.x) (by omega) (by omega)
  have q3 := absI_siz (x := a.y - b.y) (by omega) (by omega)
  have p1 : 0 ≤ siz (a.d - b.d) ∧ siz (a.d - b.d) ≤ 7 := by unfold siz; split <;> omega
  have p2 : 0 ≤ siz (a.x - b.x) ∧ siz (a.x - b.x) ≤ 255 := by unfold siz; split <;> omega
  have p3 : 0 ≤ siz (a.y - b.y) ∧ siz (a.y - b.y) ≤ 255 := by unfold siz; split <;> omega
  have w4 : wr (8 - siz (a.d - b.d)) = 8 - siz (a.d - b.d) := wr_id (by omega) (by omega)
  have w5 : wr (siz (a.x - b.x) + siz (a.y - b.y)) = siz (a.x - b.x) + siz (a.y - b.y) := wr_id (by omega) (by omega)
  have w6 : wr (16 * min (siz (a.d - b.d)) (8 - siz (a.d - b.d))) = 16 * min (siz (a.d - b.d)) (8 - siz (a.d - b.d)) := wr_id (by omega) (by omega)
  have w7 : wr (siz (a.x - b.x) + siz (a.y - b.y) + 16 * min (siz (a.d - b.d)) (8 - siz (a.d - b.d))) = fcost a b := by
    have e : siz (a.x - b.x) + siz (a.y - b.y) + 16 * min (siz (a.d - b.d)) (8 - siz (a.d - b.d)) = fcost a b := rfl
    rw [e, wr_id (by omega) (by omega)]
  simp only [w1, w2, w3, obind_sm, q1, q2, q3, w4, w5, w6, w7]

/-- A table's entry. -/
def Val (T : List (Sl Int)) (p q : Nat) (v : Int) : Prop := ∃ row, T[p]? = some (some row) ∧ row[q]? = some v

abbrev far : Int := 1099511627776

abbrev elC (a b : List Feat) : Nat → Nat → Int := fun i j => fcost (fAt a i) (fAt b j)

abbrev elR (band : Int) : Nat → Nat → Prop := fun i j => siz ((i : Int) - (j : Int)) ≤ band

theorem elC_le {a b : List Feat} (fa : ∀ f ∈ a, FOK f) (fb : ∀ f ∈ b, FOK f) (i j : Nat) : 0 ≤ elC a b i j ∧ elC a b i j ≤ 1000 := fcost_le (fAt_ok fa i) (fAt_ok fb j)

/-- The table's rows ahead of `i`, and `j` entries of row `i`, are the least costs. -/
structure Tbl (a b : List Feat) (band : Int) (i j : Nat) (T : List (Sl Int)) : Prop where
  len : T.length = a.length
  val : ∀ p q, q < b.length → (p < i ∨ p = i ∧ q < j) → ∃ v, Val T p q v ∧ Opt far (elC a b) (elR band) p q v

theorem Val.set {T : List (Sl Int)} {i j p q : Nat} {row : List Int} {v w : Int} (hr : T[i]? = some (some row)) (hj : j < row.length) :
    Val (T.set i (some (row.set j w))) p q v ↔ (p = i ∧ q = j ∧ v = w) ∨ (¬ (p = i ∧ q = j) ∧ Val T p q v) := by
  have hi := get_lt hr
  unfold Val
  constructor
  · rintro ⟨r, h1, h2⟩
    by_cases c : i = p
    · subst c
      rw [List.getElem?_set_self hi] at h1
      cases h1
      by_cases d : j = q
      · subst d
        rw [List.getElem?_set_self hj] at h2
        cases h2
        exact .inl ⟨rfl, rfl, rfl⟩
      · rw [List.getElem?_set_ne d] at h2
        exact .inr ⟨fun h => d h.2.symm, row, hr, h2⟩
    · rw [List.getElem?_set_ne c] at h1
      exact .inr ⟨fun h => c h.1.symm, r, h1, h2⟩
  · rintro (⟨rfl, rfl, rfl⟩ | ⟨hne, r, h1, h2⟩)
    · exact ⟨_, List.getElem?_set_self hi, List.getElem?_set_self hj⟩
    · by_cases c : i = p
      · subst c
        rw [hr] at h1
        cases h1
        have d : j ≠ q := fun h => hne ⟨rfl, h.symm⟩
        exact ⟨_, List.getElem?_set_self hi, by rw [List.getElem?_set_ne d]; exact h2⟩
      · exact ⟨r, by rw [List.getElem?_set_ne c]; exact h1, h2⟩

theorem Tbl.step {a b : List Feat} {band : Int} {i j : Nat} {T : List (Sl Int)} {row : List Int} {v : Int} (h : Tbl a b band i j T) (hr : T[i]? = some (some row)) (hj : j < row.length) (ho : Opt far (elC a b) (elR band) i j v) : Tbl a b band i (j + 1) (T.set i (some (row.set j v))) := by
  refine ⟨by simp [h.len], fun p q hq hpq => ?_⟩
  by_cases e : p = i ∧ q = j
  · obtain ⟨rfl, rfl⟩ := e
    exact ⟨v, (Val.set hr hj).2 (.inl ⟨rfl, rfl, rfl⟩), ho⟩
  · obtain ⟨w, h1, h2⟩ := h.val p q hq (by omega)
    exact ⟨w, (Val.set hr hj).2 (.inr ⟨e, h1⟩), h2⟩

theorem el_in {N M : Nat} (hN : N ≤ 72) (hM : M ≤ 72) (i j : Nat) (hi : i ≤ N) (hj : j ≤ M) : elR 72 i j := by
  show siz _ ≤ 72
  unfold siz
  split <;> omega

/-- A path read from its end on, with its cost. -/
inductive Tr (C : Nat → Nat → Int) (R : Nat → Nat → Prop) : Nat → Nat → Int → List Pair → Prop
  | start : R 0 0 → Tr C R 0 0 (C 0 0) [⟨0, 0⟩]
  | step {p q i j : Nat} {c : Int} {L : List Pair} : Tr C R p q c L → Pre p q i j → R i j → Tr C R i j (c + C i j) (⟨(i : Int), (j : Int)⟩ :: L)

def csum (C : Nat → Nat → Int) : List Pair → Int
  | [] => 0
  | p :: l => C p.i.toNat p.j.toNat + csum C l

theorem csum_app (C : Nat → Nat → Int) (l r : List Pair) : csum C (l ++ r) = csum C l + csum C r := by
  induction l with
  | nil => simp [csum]
  | cons p l ih =>
    show C p.i.toNat p.j.toNat + csum C (l ++ r) = C p.i.toNat p.j.toNat + csum C l + csum C r
    rw [ih]
    omega

theorem Tr.head {C : Nat → Nat → Int} {R : Nat → Nat → Prop} {i j : Nat} {c : Int} {L : List Pair} (h : Tr C R i j c L) : ∃ L', L = ⟨(i : Int), (j : Int)⟩ :: L' := by
  cases h with
  | start h => exact ⟨[], rfl⟩
  | step h1 h2 h3 => exact ⟨_, rfl⟩

theorem Tr.path {C : Nat → Nat → Int} {R : Nat → Nat → Prop} {i j : Nat} {c : Int} {L : List Pair} (h : Tr C R i j c L) :
    PathOK L.reverse ((i : Int) + 1) ((j : Int) + 1) ∧ csum C L.reverse = c ∧ L.length ≤ i + j + 1 ∧ ∀ p ∈ L, R p.i.toNat p.j.toNat := by
  induction h with
  | start h =>
    refine ⟨⟨rfl, rfl, trivial⟩, ?_, by simp, ?_⟩
    · simp [csum]
    · intro p hp
      simp only [List.mem_singleton] at hp
      subst hp
      exact h
  | @step p q i j c L h1 h2 h3 ih =>
    obtain ⟨⟨i1, i2, i3⟩, i4, i5, i6⟩ := ih
    obtain ⟨L', rfl⟩ := h1.head
    have hs : stepOK ⟨(p : Int), (q : Int)⟩ ⟨(i : Int), (j : Int)⟩ := by
      unfold Pre at h2
      refine ⟨by simp only; omega, by simp only; omega, pair_ne (by omega)⟩
    rw [List.reverse_cons]
    refine ⟨⟨?_, ?_, ?_⟩, ?_, ?_, ?_⟩
    · rw [List.head?_append, i1]
      rfl
    · rw [List.getLast?_append]
      simp
    · refine chain_app i3 ?_ hs
      rw [List.getLast?_reverse]
      rfl
    · rw [csum_app, i4]
      simp [csum]
    · unfold Pre at h2
      simp only [List.length_cons] at *
      omega
    · intro x hx
      rcases List.mem_cons.1 hx with rfl | hx
      · simpa using h3
      · exact i6 x hx

theorem l09Size_siz {n : Int} (h : -1000000 ≤ n) (h' : n ≤ 1000000) : t_spec_l09Size n = some (siz n) := by
  unfold t_spec_l09Size siz
  by_cases c : n < 0
  · have w : wr (-n) = -n := wr_id (by omega) (by omega)
    simp [c, w]
  · simp [c]

theorem elR_of {band : Int} {i j : Nat} (h1 : (i : Int) - j ≤ band) (h2 : (j : Int) - i ≤ band) : elR band i j := by
  show siz _ ≤ band
  unfold siz
  split <;> omega

theorem band_path {C : Nat → Nat → Int} {band : Int} (hb : 0 ≤ band) : ∀ i j : Nat, (i : Int) - j ≤ band → (j : Int) - i ≤ band → ∃ c, Pth C (elR band) i j c
  | 0, 0, h1, h2 => ⟨_, .start (elR_of h1 h2)⟩
  | 0, j + 1, h1, h2 => by
    obtain ⟨c, h⟩ := band_path (C := C) hb 0 j (by omega) (by omega)
    exact ⟨_, .step h (by unfold Pre; omega) (elR_of h1 h2)⟩
  | i + 1, 0, h1, h2 => by
    obtain ⟨c, h⟩ := band_path (C := C) hb i 0 (by omega) (by omega)
    exact ⟨_, .step h (by unfold Pre; omega) (elR_of h1 h2)⟩
  | i + 1, j + 1, h1, h2 => by
    obtain ⟨c, h⟩ := band_path (C := C) hb i j (by omega) (by omega)
    exact ⟨_, .step h (by unfold Pre; omega) (elR_of h1 h2)⟩

/-- The reference's table is flat. -/
theorem l09Cost_ok {a b : Feat} (ha : FOK a) (hb : FOK b) : t_spec_l09Cost a b = some (fcost a b) := by
  have hc := fcost_le ha hb
  obtain ⟨a1, a2, a3, a4, a5, a6⟩ := ha
  obtain ⟨b1, b2, b3, b4, b5, b6⟩ := hb
  unfold t_spec_l09Cost
  have w1 : wr (a.d - b.d) = a.d - b.d := wr_id (by omega) (by omega)
  have w2 : wr (a.x - b.x) = a.x - b.x := wr_id (by omega) (by omega)
  have w3 : wr (a.y - b.y) = a.y - b.y := wr_id (by omega) (by omega)
  have q1 := l09Size_siz (n := a.d - b.d) (by omega) (by omega)
  have q2 := l09Size_siz (n := a.x - b.x) (by omega) (by omega)
  have q3 := l09Size_siz (n := a.y - b.y) (by omega) (by omega)
  have p1 : 0 ≤ siz (a.d - b.d) ∧ siz (a.d - b.d) ≤ 7 := by unfold siz; split <;> omega
  have p2 : 0 ≤ siz (a.x - b.x) ∧ siz (a.x - b.x) ≤ 255 := by unfold siz; split <;> omega
  have p3 : 0 ≤ siz (a.y - b.y) ∧ siz (a.y - b.y) ≤ 255 := by unfold siz; split <;> omega
  have w4 : wr (8 - siz (a.d - b.d)) = 8 - siz (a.d - b.d) := wr_id (by omega) (by omega)
  have w5 : wr (siz (a.x - b.x) + siz (a.y - b.y)) = siz (a.x - b.x) + siz (a.y - b.y) := wr_id (by omega) (by omega)
  have w6 : wr (16 * min (siz (a.d - b.d)) (8 - siz (a.d - b.d))) = 16 * min (siz (a.d - b.d)) (8 - siz (a.d - b.d)) := wr_id (by omega) (by omega)
  have w7 : wr (siz (a.x - b.x) + siz (a.y - b.y) + 16 * min (siz (a.d - b.d)) (8 - siz (a.d - b.d))) = fcost a b := by
    have e : siz (a.x - b.x) + siz (a.y - b.y) + 16 * min (siz (a.d - b.d)) (8 - siz (a.d - b.d)) = fcost a b := rfl
    rw [e, wr_id (by omega) (by omega)]
  simp only [w1, w2, w3, obind_sm, q1, q2, q3, w4, w5, w6, w7]

abbrev bil : Int := 1000000000

/-- The flat table's entries ahead of a place are the least costs. -/
structure Flt (a b : List Feat) (i j : Nat) (T : List Int) : Prop where
  len : T.length = a.length * b.length
  val : ∀ p q, q < b.length → (p < i ∨ p = i ∧ q < j) → ∃ v, T[p * b.length + q]? = some v ∧ Opt bil (elC a b) (elR 72) p q v

theorem pre_d {i j : Nat} (hi : ¬ i = 0) (hj : ¬ j = 0) : Pre (i - 1) (j - 1) i j := by unfold Pre; omega

theorem pre_u {i j : Nat} (hi : ¬ i = 0) : Pre (i - 1) j i j := by unfold Pre; omega

theorem pre_l {i j : Nat} (hj : ¬ j = 0) : Pre i (j - 1) i j := by unfold Pre; omega

theorem Pre.cs {p q i j : Nat} (h : Pre p q i j) : (p = i - 1 ∧ q = j - 1) ∨ (p = i - 1 ∧ q = j) ∨ (p = i ∧ q = j - 1) := by unfold Pre at h; omega

theorem min3 {w x y z : Int} (h : w = min (min x y) z) : w ≤ x ∧ w ≤ y ∧ w ≤ z ∧ (w = x ∨ w = y ∨ w = z) := by omega

theorem flat_lt {n m p q : Nat} (hp : p < n) (hq : q < m) : p * m + q < n * m := by
  have h : (p + 1) * m ≤ n * m := Nat.mul_le_mul_right m hp
  rw [Nat.succ_mul] at h
  omega

theorem flat_ne {m p q i j : Nat} (hq : q < m) (h : p < i ∨ p = i ∧ q < j) : i * m + j ≠ p * m + q := by
  rcases h with h | ⟨rfl, h⟩
  · have h2 : (p + 1) * m ≤ i * m := Nat.mul_le_mul_right m h
    rw [Nat.succ_mul] at h2
    omega
  · omega

theorem opt_lt {a b : List Feat} {i j : Nat} {v : Int} (hi : i ≤ 72) (hj : j ≤ 72) (o : Opt bil (elC a b) (elR 72) i j v) : v < bil := by
  obtain ⟨c, hc⟩ := band_path (C := elC a b) (band := 72) (by omega) i j (by omega) (by omega)
  exact (o.of hc).2.2

theorem flat_cell {a b : List Feat} (fa : ∀ f ∈ a, FOK f) (fb : ∀ f ∈ b, FOK f) (la : a.length ≤ 72) (lb : b.length ≤ 72) {i j : Nat} (hi : i < a.length) (hj : j < b.length) {T : List Int} (h : Flt a b i j T) :
    ∃ v, s1_spec_l09Table (some a) (some b) 72 (i : Int) (some T, (j : Int)) = some (.inl (some (T.set (i * b.length + j) v), ((j + 1 : Nat) : Int))) ∧ Opt bil (elC a b) (elR 72) i j v := by
  have hC := elC_le fa fb
  have hB : (1000 : Int) * ((i + j + 1 : Nat) : Int) < bil := by unfold bil; omega
  have hin : elR 72 i j := el_in (N := 72) (M := 72) (by omega) (by omega) i j (by omega) (by omega)
  have c : (j : Int) < ((b.length : Nat) : Int) := by omega
  have ws := wr_succ hj (by omega)
  have ga := getI_fAt hi
  have gb := getI_fAt hj
  have fc := l09Cost_ok (fAt_ok fa i) (fAt_ok fb j)
  have hc0 : 0 ≤ fcost (fAt a i) (fAt b j) ∧ fcost (fAt a i) (fAt b j) ≤ 1000 := hC i j
  have w1 : wr ((i : Int) - (j : Int)) = (i : Int) - (j : Int) := wr_id (by omega) (by omega)
  have q1 := l09Size_siz (n := (i : Int) - (j : Int)) (by omega) (by omega)
  have D3 : decide (72 < siz ((i : Int) - (j : Int))) = false := decide_eq_false (by have : siz ((i : Int) - (j : Int)) ≤ 72 := hin; omega)
  have hlt := flat_lt hi hj
  have hbd : a.length * b.length ≤ 72 * 72 := Nat.mul_le_mul la lb
  obtain ⟨v0, hv0⟩ : ∃ v0, T[i * b.length + j]? = some v0 := ⟨T[i * b.length + j]'(by rw [h.len]; exact hlt), List.getElem?_eq_getElem (by rw [h.len]; exact hlt)⟩
  have gv := getI_nat hv0
  have castm : ((i * b.length + j : Nat) : Int) = (i : Int) * ((b.length : Nat) : Int) + (j : Int) := by push_cast; rfl
  have im : (i : Int) * ((b.length : Nat) : Int) = ((i * b.length : Nat) : Int) := by push_cast; rfl
  have wi : wr (wr ((i : Int) * ((b.length : Nat) : Int)) + (j : Int)) = ((i * b.length + j : Nat) : Int) := by
    rw [im, wr_id (n := ((i * b.length : Nat) : Int)) (by omega) (by omega), wr_id (by omega) (by omega)]
    omega
  have st : ∀ x : Int, setS (some T) ((i * b.length + j : Nat) : Int) x = some (T.set (i * b.length + j) x) := fun x => by simp only [setS, Option.map_some, Int.toNat_natCast]
  have up : 0 < i → (i - 1) * b.length + b.length = i * b.length := fun hi0 => by
    obtain ⟨k, rfl⟩ : ∃ k, i = k + 1 := ⟨i - 1, by omega⟩
    rw [Nat.succ_mul, Nat.add_sub_cancel]
  have wu : 0 < i → wr (wr (wr ((i : Int) - 1) * ((b.length : Nat) : Int)) + (j : Int)) = (((i - 1) * b.length + j : Nat) : Int) := fun hi0 => by
    have e : wr ((i : Int) - 1) = ((i - 1 : Nat) : Int) := by rw [wr_id (by omega) (by omega)]; omega
    have u := up hi0
    have im2 : ((i - 1 : Nat) : Int) * ((b.length : Nat) : Int) = (((i - 1) * b.length : Nat) : Int) := by push_cast; rfl
    rw [e, im2, wr_id (n := (((i - 1) * b.length : Nat) : Int)) (by omega) (by omega), wr_id (by omega) (by omega)]
    omega
  have dt : ∀ {P : Prop} [Decidable P], P → decide P = true := fun h => decide_eq_true h
  have df : ∀ {P : Prop} [Decidable P], ¬ P → decide P = false := fun h => decide_eq_false h
  by_cases i0 : i = 0
  · have I1 := dt (P := (i : Int) = 0) (by omega)
    have I2 := df (P := (0 : Int) < (i : Int)) (by omega)
    by_cases j0 : j = 0
    · have J1 := dt (P := (j : Int) = 0) (by omega)
      have J2 := df (P := (0 : Int) < (j : Int)) (by omega)
      have D4 := df (P := (0 : Int) = 1000000000) (by omega)
      have w2 : wr (0 + fcost (fAt a i) (fAt b j)) = elC a b i j := by show _ = fcost (fAt a i) (fAt b j); rw [Int.zero_add, wr_id (by omega) (by omega)]
      refine ⟨elC a b i j, ?_, by
        subst i0 j0
        exact opt_start hC (by unfold bil; omega) hin⟩
      unfold s1_spec_l09Table
      simp only [Option.getD_some, c, decide_true, cond_true, I1, I2, J1, J2, obind_sm, cond_false, w1, q1, D3, D4, ga, gb, fc, wi, gv, w2, st, ws]
      rfl
    · have J1 := df (P := (j : Int) = 0) (by omega)
      have J2 := dt (P := (0 : Int) < (j : Int)) (by omega)
      obtain ⟨v, hv, ho⟩ := h.val i (j - 1) (by omega) (by omega)
      have vl := opt_lt (by omega) (by omega) ho
      have vp := (ho.path vl).bound hC
      have wl : wr (((i * b.length + j : Nat) : Int) - 1) = ((i * b.length + (j - 1) : Nat) : Int) := by rw [wr_id (by omega) (by omega)]; omega
      have gl := getI_nat hv
      have mn : (fun a b : Int => min a b) 1000000000 v = v := by show min _ _ = _; unfold bil at vl; omega
      have D4 := df (P := v = 1000000000) (by unfold bil at vl; omega)
      have hp1 : ∀ p q, Pre p q i j → p = i ∧ q = j - 1 := by unfold Pre; omega
      have os := opt_step hC hB (b := v) (by omega) (fun p q hp => by
        obtain ⟨rfl, rfl⟩ := hp1 p q hp
        exact ⟨v, ho, Int.le_refl _⟩) ⟨i, j - 1, by unfold Pre; omega, ho⟩ vl hin
      have w2 : wr (v + fcost (fAt a i) (fAt b j)) = v + elC a b i j := wr_id (by unfold bil at vl; omega) (by unfold bil at vl; omega)
      refine ⟨v + elC a b i j, ?_, os⟩
      unfold s1_spec_l09Table
      simp only [Option.getD_some, c, decide_true, cond_true, I1, I2, J1, J2, obind_sm, cond_false, w1, q1, D3, D4, ga, gb, fc, wi, wl, gl, mn, gv, w2, st, ws]
  · have I1 := df (P := (i : Int) = 0) (by omega)
    have I2 := dt (P := (0 : Int) < (i : Int)) (by omega)
    have hwu := wu (by omega)
    have hup := up (by omega)
    obtain ⟨v2, hv2, ho2⟩ := h.val (i - 1) j (by omega) (by omega)
    have vl2 := opt_lt (by omega) (by omega) ho2
    have vp2 := (ho2.path vl2).bound hC
    have g2 := getI_nat hv2
    by_cases j0 : j = 0
    · have J1 := dt (P := (j : Int) = 0) (by omega)
      have J2 := df (P := (0 : Int) < (j : Int)) (by omega)
      have mn : (fun a b : Int => min a b) 1000000000 v2 = v2 := by show min _ _ = _; unfold bil at vl2; omega
      have D4 := df (P := v2 = 1000000000) (by unfold bil at vl2; omega)
      have hp1 : ∀ p q, Pre p q i j → p = i - 1 ∧ q = j := by unfold Pre; omega
      have os := opt_step hC hB (b := v2) (by omega) (fun p q hp => by
        obtain ⟨rfl, rfl⟩ := hp1 p q hp
        exact ⟨v2, ho2, Int.le_refl _⟩) ⟨i - 1, j, by unfold Pre; omega, ho2⟩ vl2 hin
      have w2 : wr (v2 + fcost (fAt a i) (fAt b j)) = v2 + elC a b i j := wr_id (by unfold bil at vl2; omega) (by unfold bil at vl2; omega)
      refine ⟨v2 + elC a b i j, ?_, os⟩
      unfold s1_spec_l09Table
      simp only [Option.getD_some, c, decide_true, cond_true, I1, I2, J1, J2, obind_sm, cond_false, w1, q1, D3, D4, ga, gb, fc, wi, hwu, g2, mn, gv, w2, st, ws]
    · have J1 := df (P := (j : Int) = 0) (by omega)
      have J2 := dt (P := (0 : Int) < (j : Int)) (by omega)
      obtain ⟨v3, hv3, ho3⟩ := h.val i (j - 1) (by omega) (by omega)
      have vl3 := opt_lt (by omega) (by omega) ho3
      have vp3 := (ho3.path vl3).bound hC
      have g3 := getI_nat hv3
      obtain ⟨v1, hv1, ho1⟩ := h.val (i - 1) (j - 1) (by omega) (by omega)
      have vl1 := opt_lt (by omega) (by omega) ho1
      have vp1 := (ho1.path vl1).bound hC
      have g1 := getI_nat hv1
      have wl : wr (((i * b.length + j : Nat) : Int) - 1) = ((i * b.length + (j - 1) : Nat) : Int) := by rw [wr_id (by omega) (by omega)]; omega
      have wd : wr ((((i - 1) * b.length + j : Nat) : Int) - 1) = (((i - 1) * b.length + (j - 1) : Nat) : Int) := by rw [wr_id (by omega) (by omega)]; omega
      have mn1 : (fun a b : Int => min a b) 1000000000 v1 = v1 := by show min _ _ = _; unfold bil at vl1; omega
      have mn2 : (fun a b : Int => min a b) v1 v2 = min v1 v2 := rfl
      have mn3 : (fun a b : Int => min a b) (min v1 v2) v3 = min (min v1 v2) v3 := rfl
      obtain ⟨w, hw⟩ : ∃ w, w = min (min v1 v2) v3 := ⟨_, rfl⟩
      rw [← hw] at mn3
      have w1' : w ≤ v1 ∧ w ≤ v2 ∧ w ≤ v3 ∧ (w = v1 ∨ w = v2 ∨ w = v3) := min3 hw
      have wlt : w < bil := Int.lt_of_le_of_lt w1'.1 vl1
      have D4 := df (P := w = 1000000000) (by unfold bil at wlt; omega)
      have os := opt_step hC hB (b := w) (by omega) (fun p q hp => by
        rcases hp.cs with ⟨rfl, rfl⟩ | ⟨rfl, rfl⟩ | ⟨rfl, rfl⟩
        · exact ⟨v1, ho1, w1'.1⟩
        · exact ⟨v2, ho2, w1'.2.1⟩
        · exact ⟨v3, ho3, w1'.2.2.1⟩) (by
          rcases w1'.2.2.2 with e | e | e
          · exact ⟨i - 1, j - 1, pre_d i0 j0, by rw [e]; exact ho1⟩
          · exact ⟨i - 1, j, pre_u i0, by rw [e]; exact ho2⟩
          · exact ⟨i, j - 1, pre_l j0, by rw [e]; exact ho3⟩) wlt hin
      have w2 : wr (w + fcost (fAt a i) (fAt b j)) = w + elC a b i j := wr_id (by unfold bil at wlt; omega) (by unfold bil at wlt; omega)
      refine ⟨w + elC a b i j, ?_, os⟩
      unfold s1_spec_l09Table
      simp only [Option.getD_some, c, decide_true, cond_true, I1, I2, J1, J2, obind_sm, cond_false, w1, q1, D3, D4, ga, gb, fc, wi, hwu, wl, wd, g1, g2, g3, mn1, mn2, mn3, gv, w2, st, ws]

theorem flat_ok {a b : List Feat} (fa : ∀ f ∈ a, FOK f) (fb : ∀ f ∈ b, FOK f) (la : a.length ≤ 72) (lb : b.length ≤ 72) :
    ∃ T, t_spec_l09Table (some a) (some b) 72 = some (some T) ∧ Flt a b a.length 0 T := by
  have hbd : a.length * b.length ≤ 72 * 72 := Nat.mul_le_mul la lb
  have inner : ∀ (i : Nat), i < a.length → ∀ (T : List Int), Flt a b i 0 T → ∃ T', loopT (s1_spec_l09Table (some a) (some b) 72 (i : Int)) (some T, 0) = some (some T') ∧ Flt a b (i + 1) 0 T' := by
    intro i hi T h
    obtain ⟨r, h1, h2⟩ := loopT_ex (step := s1_spec_l09Table (some a) (some b) 72 (i : Int)) (fun j s => ∃ T, s = (some T, (j : Int)) ∧ Flt a b i j T) b.length (fun r => ∃ T', r = some T' ∧ Flt a b (i + 1) 0 T')
      (fun j s hj hs => by
        obtain ⟨T, rfl, h⟩ := hs
        obtain ⟨v, e, ho⟩ := flat_cell fa fb la lb hi hj h
        refine .inl ⟨_, e, _, rfl, by rw [List.length_set, h.len], fun p q hq hpq => ?_⟩
        by_cases e : p = i ∧ q = j
        · obtain ⟨rfl, rfl⟩ := e
          exact ⟨v, List.getElem?_set_self (by rw [h.len]; exact flat_lt hi hj), ho⟩
        · have hpq' : p < i ∨ p = i ∧ q < j := by omega
          obtain ⟨w, h1, h2⟩ := h.val p q hq hpq'
          exact ⟨w, by rw [List.getElem?_set_ne (flat_ne hq hpq')]; exact h1, h2⟩)
      (fun s hs => by
        obtain ⟨T, rfl, h⟩ := hs
        refine ⟨some T, ?_, T, rfl, h.len, fun p q hq hpq => h.val p q hq (by omega)⟩
        unfold s1_spec_l09Table
        simp only [Option.getD_some, Int.lt_irrefl, decide_false, cond_false])
      (s := (some T, 0)) ⟨T, rfl, h⟩
    obtain ⟨T', rfl, h3⟩ := h2
    exact ⟨T', h1, h3⟩
  obtain ⟨r, h1, h2⟩ := loopT_ex (step := s0_spec_l09Table (some a) (some b) 72) (fun i s => ∃ T, s = (some T, (i : Int)) ∧ Flt a b i 0 T) a.length (fun r => ∃ T, r = some T ∧ Flt a b a.length 0 T)
    (fun i s hi hs => by
      obtain ⟨T, rfl, h⟩ := hs
      have c : (i : Int) < ((a.length : Nat) : Int) := by omega
      obtain ⟨T', e, h'⟩ := inner i hi _ h
      refine .inl ⟨(some T', ((i + 1 : Nat) : Int)), ?_, T', rfl, h'⟩
      unfold s0_spec_l09Table
      simp only [Option.getD_some, c, decide_true, cond_true, obind_sm, e, wr_succ hi (by omega)])
    (fun s hs => by
      obtain ⟨T, rfl, h⟩ := hs
      refine ⟨some T, ?_, T, rfl, h⟩
      unfold s0_spec_l09Table
      simp only [Option.getD_some, Int.lt_irrefl, decide_false, cond_false])
    (s := (some (List.replicate (a.length * b.length) 0), 0)) ⟨_, rfl, by simp, fun p q _ h => by omega⟩
  obtain ⟨T, rfl, h3⟩ := h2
  refine ⟨T, ?_, h3⟩
  have w : wr (((a.length : Nat) : Int) * ((b.length : Nat) : Int)) = ((a.length * b.length : Nat) : Int) := by
    have im : ((a.length : Nat) : Int) * ((b.length : Nat) : Int) = ((a.length * b.length : Nat) : Int) := by push_cast; rfl
    rw [im, wr_id (by omega) (by omega)]
  have mk : makeO (0 : Int) ((a.length * b.length : Nat) : Int) = some (List.replicate (a.length * b.length) 0) := by
    unfold makeO
    rw [if_pos ⟨by omega, by omega⟩, Int.toNat_natCast]
  unfold t_spec_l09Table
  simp only [Option.getD_some, w, mk, obind_sm, h1]

theorem l09Ok_ok {l : List Feat} (h : ∀ f ∈ l, FOK f) (h1 : 1 ≤ l.length) (h2 : l.length ≤ 72) : t_spec_l09Ok (some l) = some true := by
  have lp := loopT_first (step := s0_spec_l09Ok (some l)) l (fun _ _ => (none : Option Bool)) (.inl ()) .inr
    (fun k a ha => by
      have hk := get_lt ha
      have c : (k : Int) < (l.length : Nat) := by omega
      obtain ⟨f1, f2, f3, f4, f5, f6⟩ := h a (List.mem_of_getElem? ha)
      have v : t_spec_l09Feat a = some true := by simp [t_spec_l09Feat, within, f1, f2, f3, f4, f5, f6]
      unfold s0_spec_l09Ok
      simp only [Option.getD_some, c, decide_true, cond_true, getI_nat ha, obind_sm, v, Bool.not_true, cond_false, wr_succ hk (by omega)])
    (by
      unfold s0_spec_l09Ok
      simp only [Option.getD_some, Int.lt_irrefl, decide_false, cond_false])
  rw [firstL_none (fun _ _ _ => rfl)] at lp
  have w : within ((l.length : Nat) : Int) 1 72 = true := by simp [within]; omega
  unfold t_spec_l09Ok
  simp only [lp, obind_sm, Option.getD_some, w]

/-- The reference's least cost. -/
theorem specElastic_ok {a b : List Feat} (fa : ∀ f ∈ a, FOK f) (fb : ∀ f ∈ b, FOK f) (a1 : 1 ≤ a.length) (la : a.length ≤ 72) (b1 : 1 ≤ b.length) (lb : b.length ≤ 72) :
    ∃ v, t_spec_Elastic (some a) (some b) 72 = some (v, 0) ∧ Opt bil (elC a b) (elR 72) (a.length - 1) (b.length - 1) v := by
  obtain ⟨T, e, h⟩ := flat_ok fa fb la lb
  obtain ⟨v, hv, ho⟩ := h.val (a.length - 1) (b.length - 1) (by omega) (by omega)
  refine ⟨v, ?_, ho⟩
  have hbd : a.length * b.length ≤ 72 * 72 := Nat.mul_le_mul la lb
  have ix : (a.length - 1) * b.length + (b.length - 1) = a.length * b.length - 1 := by
    obtain ⟨k, hk⟩ : ∃ k, a.length = k + 1 := ⟨a.length - 1, by omega⟩
    rw [hk, Nat.succ_mul, Nat.add_sub_cancel]
    omega
  have pos : 0 < a.length * b.length := Nat.mul_pos (by omega) (by omega)
  have w1 : wr (((T.length : Nat) : Int) - 1) = ((a.length * b.length - 1 : Nat) : Int) := by rw [h.len, wr_id (by omega) (by omega)]; omega
  rw [ix] at hv
  have g := getI_nat hv
  have w3 : wr ((a.length : Int) - b.length) = (a.length : Int) - b.length := wr_id (by omega) (by omega)
  have q := l09Size_siz (n := (a.length : Int) - b.length) (by omega) (by omega)
  have q2 : ¬ 72 < siz ((a.length : Int) - b.length) := by unfold siz; split <;> omega
  have wi : within (72 : Int) 0 72 = true := by simp [within]
  have v1 := l09Ok_ok fa a1 la
  have v2 := l09Ok_ok fb b1 lb
  unfold t_spec_Elastic t_spec_l09Code t_spec_l09Least
  simp [v1, v2, wi, w3, q, q2, e, w1, g]

/-- A path through rows from the first one on, from any column `f`. -/
def PF (C : Nat → Nat → Int) (f i j : Nat) (c : Int) : Prop := f ≤ j ∧ Pth (fun p q => C p (q + f)) (fun _ _ => True) i (j - f) c

theorem PF.start {C : Nat → Nat → Int} (j : Nat) : PF C j 0 j (C 0 j) := by
  refine ⟨Nat.le_refl _, ?_⟩
  have h := Pth.start (C := fun p q => C p (q + j)) (R := fun _ _ => True) trivial
  simp only [Nat.zero_add] at h
  rw [Nat.sub_self]
  exact h

theorem PF.step {C : Nat → Nat → Int} {f p q i j : Nat} {c : Int} (h : PF C f p q c) (hp : Pre p q i j) : PF C f i j (c + C i j) := by
  obtain ⟨h1, h2⟩ := h
  have hj : q ≤ j := by unfold Pre at hp; omega
  refine ⟨by omega, ?_⟩
  have h3 : Pth (fun p q => C p (q + f)) (fun _ _ => True) i (j - f) (c + C i (j - f + f)) := Pth.step (i := i) (j := j - f) h2 (by unfold Pre at *; omega) trivial
  rw [Nat.sub_add_cancel (by omega)] at h3
  exact h3

theorem PF.inv {C : Nat → Nat → Int} {f i j : Nat} {c : Int} (h : PF C f i j c) : (i = 0 ∧ f = j ∧ c = C 0 j) ∨ ∃ p q c', PF C f p q c' ∧ Pre p q i j ∧ c = c' + C i j := by
  obtain ⟨h1, h2⟩ := h
  rcases h2.inv with ⟨h3, h4, h5, _⟩ | ⟨p, q, c', h3, h4, _, h6⟩
  · have e : f = j := by omega
    subst e
    simp only [Nat.zero_add] at h5
    exact .inl ⟨h3, rfl, h5⟩
  · have h6 : c = c' + C i (j - f + f) := h6
    rw [Nat.sub_add_cancel (by omega)] at h6
    refine .inr ⟨p, q + f, c', ⟨by omega, by rw [Nat.add_sub_cancel]; exact h3⟩, by unfold Pre at *; omega, h6⟩

theorem PF.bound {C : Nat → Nat → Int} {K : Int} (hC : ∀ i j, 0 ≤ C i j ∧ C i j ≤ K) {f i j : Nat} {c : Int} (h : PF C f i j c) (hi : i ≤ 72) (hj : j ≤ 72) : 0 ≤ c ∧ c ≤ K * 145 := by
  obtain ⟨h1, h2⟩ := h
  have b := h2.bound (K := K) (fun p q => hC p (q + f))
  have hK : 0 ≤ K := Int.le_trans (hC 0 0).1 (hC 0 0).2
  have m : K * ((i + (j - f) + 1 : Nat) : Int) ≤ K * 145 := Int.mul_le_mul_of_nonneg_left (by omega) hK
  omega

/-- The least of the paths to a pair, and where it begins. -/
def PO (C : Nat → Nat → Int) (i j : Nat) (x : Part) : Prop := ∃ f : Nat, x.frm = (f : Int) ∧ PF C f i j x.cost ∧ ∀ g c, PF C g i j c → x.cost ≤ c

def PVal (T : List (Sl Part)) (p q : Nat) (v : Part) : Prop := ∃ row, T[p]? = some (some row) ∧ row[q]? = some v

theorem PVal.uniq {T : List (Sl Part)} {p q : Nat} {v v' : Part} (h : PVal T p q v) (h' : PVal T p q v') : v = v' := by
  obtain ⟨r, h1, h2⟩ := h
  obtain ⟨r', h3, h4⟩ := h'
  rw [h1] at h3
  cases h3
  rw [h2] at h4
  cases h4
  rfl

theorem PVal.set {T : List (Sl Part)} {i j p q : Nat} {row : List Part} {v w : Part} (hr : T[i]? = some (some row)) (hj : j < row.length) :
    PVal (T.set i (some (row.set j w))) p q v ↔ (p = i ∧ q = j ∧ v = w) ∨ (¬ (p = i ∧ q = j) ∧ PVal T p q v) := by
  have hi := get_lt hr
  unfold PVal
  constructor
  · rintro ⟨r, h1, h2⟩
    by_cases c : i = p
    · subst c
      rw [List.getElem?_set_self hi] at h1
      cases h1
      by_cases d : j = q
      · subst d
        rw [List.getElem?_set_self hj] at h2
        cases h2
        exact .inl ⟨rfl, rfl, rfl⟩
      · rw [List.getElem?_set_ne d] at h2
        exact .inr ⟨fun h => d h.2.symm, row, hr, h2⟩
    · rw [List.getElem?_set_ne c] at h1
      exact .inr ⟨fun h => c h.1.symm, r, h1, h2⟩
  · rintro (⟨rfl, rfl, rfl⟩ | ⟨hne, r, h1, h2⟩)
    · exact ⟨_, List.getElem?_set_self hi, List.getElem?_set_self hj⟩
    · by_cases c : i = p
      · subst c
        rw [hr] at h1
        cases h1
        have d : j ≠ q := fun h => hne ⟨rfl, h.symm⟩
        exact ⟨_, List.getElem?_set_self hi, by rw [List.getElem?_set_ne d]; exact h2⟩
      · exact ⟨r, by rw [List.getElem?_set_ne c]; exact h1, h2⟩

theorem better_ok (p q : Part) : ∃ r, t_impl_part_better p q = some r ∧ (r = true → p.cost ≤ q.cost) ∧ (r = false → q.cost ≤ p.cost) := by
  unfold t_impl_part_better
  by_cases h : p.cost < q.cost
  · exact ⟨true, by simp [h], fun _ => by omega, fun h => by cases h⟩
  · by_cases h2 : p.cost = q.cost
    · refine ⟨decide (q.frm < p.frm), by simp [h2], fun _ => by omega, fun _ => by omega⟩
    · refine ⟨false, by simp [h, h2], fun h => by (cases h), fun _ => by omega⟩

theorem pb_in {T : List (Sl Part)} {i j d0 d1 k : Nat} {w v : Part} (hk : k < 3) (h : getI [(⟨1, 1⟩ : Ar2), ⟨1, 0⟩, ⟨0, 1⟩] (k : Int) = some ⟨(d0 : Int), (d1 : Int)⟩) (h0 : d0 ≤ i) (h1 : d1 ≤ j) (hi : i ≤ 1000000) (hj : j ≤ 1000000) (hv : PVal T (i - d0) (j - d1) v) :
    ∃ w', s3_impl_PartElastic (i : Int) (some T) (j : Int) ⟨1, 1, 1, 0, 0, 1⟩ (w.cost, w.frm, (k : Int)) = some (.inl (w'.cost, w'.frm, ((k + 1 : Nat) : Int))) ∧ (w' = w ∨ w' = v) ∧ w'.cost ≤ w.cost ∧ w'.cost ≤ v.cost := by
  obtain ⟨row, r1, r2⟩ := hv
  have c : (k : Int) < 3 := by omega
  have c0 : (d0 : Int) ≤ (i : Int) := by omega
  have c1 : (d1 : Int) ≤ (j : Int) := by omega
  have w0 : wr ((i : Int) - (d0 : Int)) = ((i - d0 : Nat) : Int) := by rw [wr_id (by omega) (by omega)]; omega
  have w1 : wr ((j : Int) - (d1 : Int)) = ((j - d1 : Nat) : Int) := by rw [wr_id (by omega) (by omega)]; omega
  have w2 := wr_succ hk (by omega)
  obtain ⟨r, e, t, f⟩ := better_ok v w
  have e' : t_impl_part_better v ⟨w.cost, w.frm⟩ = some r := e
  cases r with
  | true =>
    refine ⟨v, ?_, .inr rfl, t rfl, Int.le_refl _⟩
    unfold s3_impl_PartElastic
    simp only [c, decide_true, cond_true, h, obind_sm, c0, c1, Option.getD_some, w0, w1, getI_nat r1, getI_nat r2, w2, e']
  | false =>
    refine ⟨w, ?_, .inl rfl, Int.le_refl _, f rfl⟩
    unfold s3_impl_PartElastic
    simp only [c, decide_true, cond_true, h, obind_sm, c0, c1, Option.getD_some, w0, w1, getI_nat r1, getI_nat r2, w2, e', cond_false]

theorem pb_out {T : List (Sl Part)} {i j d0 d1 k : Nat} {w : Part} (hk : k < 3) (h : getI [(⟨1, 1⟩ : Ar2), ⟨1, 0⟩, ⟨0, 1⟩] (k : Int) = some ⟨(d0 : Int), (d1 : Int)⟩) (h0 : ¬ (d0 ≤ i ∧ d1 ≤ j)) :
    s3_impl_PartElastic (i : Int) (some T) (j : Int) ⟨1, 1, 1, 0, 0, 1⟩ (w.cost, w.frm, (k : Int)) = some (.inl (w.cost, w.frm, ((k + 1 : Nat) : Int))) := by
  have c : (k : Int) < 3 := by omega
  have w2 := wr_succ hk (by omega)
  unfold s3_impl_PartElastic
  by_cases c0 : (d0 : Int) ≤ (i : Int)
  · have c1 : ¬ (d1 : Int) ≤ (j : Int) := by omega
    simp only [c, decide_true, cond_true, h, obind_sm, c0, c1, decide_false, cond_false, w2]
  · simp only [c, decide_true, cond_true, h, obind_sm, c0, decide_false, cond_false, w2]

/-- The best of what lies ahead, and of what was given. -/
theorem pbest_ok {T : List (Sl Part)} {i j : Nat} (hi : i ≤ 1000000) (hj : j ≤ 1000000) (hT : ∀ p q, Pre p q i j → ∃ v, PVal T p q v) (w : Part) :
    ∃ b : Part, loopT (s3_impl_PartElastic (i : Int) (some T) (j : Int) ⟨1, 1, 1, 0, 0, 1⟩) (w.cost, w.frm, 0) = some (b.cost, b.frm) ∧ b.cost ≤ w.cost ∧ (b = w ∨ ∃ p q, Pre p q i j ∧ PVal T p q b) ∧ ∀ p q v, Pre p q i j → PVal T p q v → b.cost ≤ v.cost := by
  have round : ∀ (k d0 d1 : Nat) (u : Part), k < 3 → getI [(⟨1, 1⟩ : Ar2), ⟨1, 0⟩, ⟨0, 1⟩] (k : Int) = some ⟨(d0 : Int), (d1 : Int)⟩ → (0 < d0 + d1 ∧ d0 ≤ 1 ∧ d1 ≤ 1) →
      (u = w ∨ ∃ p q, Pre p q i j ∧ PVal T p q u) → ∃ u' : Part, s3_impl_PartElastic (i : Int) (some T) (j : Int) ⟨1, 1, 1, 0, 0, 1⟩ (u.cost, u.frm, (k : Int)) = some (.inl (u'.cost, u'.frm, ((k + 1 : Nat) : Int))) ∧ u'.cost ≤ u.cost ∧ (u' = w ∨ ∃ p q, Pre p q i j ∧ PVal T p q u') ∧
        ∀ p q v, i = p + d0 → j = q + d1 → PVal T p q v → u'.cost ≤ v.cost := by
    intro k d0 d1 u hk hg hd hu
    by_cases c : d0 ≤ i ∧ d1 ≤ j
    · have hp : Pre (i - d0) (j - d1) i j := by unfold Pre; omega
      obtain ⟨v, hv⟩ := hT _ _ hp
      obtain ⟨u', e1, e2, e3, e4⟩ := pb_in (w := u) hk hg c.1 c.2 hi hj hv
      refine ⟨u', e1, e3, ?_, ?_⟩
      · rcases e2 with rfl | rfl
        · exact hu
        · exact .inr ⟨_, _, hp, hv⟩
      · intro p q v' f1 f2 hv'
        have ep : p = i - d0 := by omega
        have eq : q = j - d1 := by omega
        subst ep eq
        rw [hv'.uniq hv]
        exact e4
    · refine ⟨u, pb_out hk hg c, Int.le_refl _, hu, ?_⟩
      intro p q v' e1 e2 hv'
      omega
  obtain ⟨w1, e1, l1, o1, m1⟩ := round 0 1 1 w (by omega) rfl (by omega) (.inl rfl)
  obtain ⟨w2, e2, l2, o2, m2⟩ := round 1 1 0 w1 (by omega) rfl (by omega) o1
  obtain ⟨w3, e3, l3, o3, m3⟩ := round 2 0 1 w2 (by omega) rfl (by omega) o2
  refine ⟨w3, ?_, by omega, o3, ?_⟩
  · have e1' : s3_impl_PartElastic (i : Int) (some T) (j : Int) ⟨1, 1, 1, 0, 0, 1⟩ (w.cost, w.frm, 0) = some (.inl (w1.cost, w1.frm, 1)) := e1
    have e2' : s3_impl_PartElastic (i : Int) (some T) (j : Int) ⟨1, 1, 1, 0, 0, 1⟩ (w1.cost, w1.frm, 1) = some (.inl (w2.cost, w2.frm, 2)) := e2
    have e3' : s3_impl_PartElastic (i : Int) (some T) (j : Int) ⟨1, 1, 1, 0, 0, 1⟩ (w2.cost, w2.frm, 2) = some (.inl (w3.cost, w3.frm, 3)) := e3
    rw [loopT_next e1', loopT_next e2', loopT_next e3']
    have e4 : s3_impl_PartElastic (i : Int) (some T) (j : Int) ⟨1, 1, 1, 0, 0, 1⟩ (w3.cost, w3.frm, (3 : Int)) = some (.inr (w3.cost, w3.frm)) := by
      unfold s3_impl_PartElastic
      simp only [Int.lt_irrefl, decide_false, cond_false]
    exact loopT_end e4
  · intro p q v hp hv
    rcases hp with ⟨h1, h2⟩ | ⟨h1, h2⟩ | ⟨h1, h2⟩
    · have := m1 p q v h1 h2 hv
      omega
    · have := m2 p q v h1 (by omega) hv
      omega
    · have := m3 p q v (by omega) h2 hv
      omega

theorem s34_part : s4_impl_PartElastic = s3_impl_PartElastic := rfl

/-- The entries ahead of a place are the least parts. -/
structure PTbl (a b : List Feat) (i j : Nat) (T : List (Sl Part)) : Prop where
  len : T.length = a.length
  rows : ∀ (k : Nat) (row : List Part), T[k]? = some (some row) → row.length = b.length
  val : ∀ p q, q < b.length → (p < i ∨ p = i ∧ q < j) → ∃ v, PVal T p q v ∧ PO (elC a b) p q v

theorem part_cell {a b : List Feat} (fa : ∀ f ∈ a, FOK f) (fb : ∀ f ∈ b, FOK f) (la : a.length ≤ 72) (lb : b.length ≤ 72) {i j : Nat} (hi : i < a.length) (hj : j < b.length) {T : List (Sl Part)} {row : List Part}
    (h : PTbl a b i j T) (hr : T[i]? = some (some row)) :
    ∃ v, s1_impl_PartElastic (some a) (some b) (i : Int) (some T, (j : Int)) = some (.inl (some (T.set i (some (row.set j v))), ((j + 1 : Nat) : Int))) ∧ PO (elC a b) i j v := by
  have hl := h.rows _ _ hr
  have hC := elC_le fa fb
  have hpre : ∀ p q, Pre p q i j → q < b.length ∧ (p < i ∨ p = i ∧ q < j) ∧ p ≤ 72 ∧ q ≤ 72 := by
    intro p q hp
    unfold Pre at hp
    omega
  have hT : ∀ p q, Pre p q i j → ∃ v, PVal T p q v := fun p q hp => by
    obtain ⟨v, hv, _⟩ := h.val p q (hpre p q hp).1 (hpre p q hp).2.1
    exact ⟨v, hv⟩
  have po : ∀ p q v, Pre p q i j → PVal T p q v → PO (elC a b) p q v ∧ 0 ≤ v.cost ∧ v.cost ≤ 145000 := by
    intro p q v hp hv
    obtain ⟨v', hv', ho⟩ := h.val p q (hpre p q hp).1 (hpre p q hp).2.1
    rw [hv.uniq hv']
    obtain ⟨f, h1, h2, h3⟩ := ho
    have := h2.bound hC (hpre p q hp).2.2.1 (hpre p q hp).2.2.2
    exact ⟨⟨f, h1, h2, h3⟩, by omega, by omega⟩
  have c : (j : Int) < ((b.length : Nat) : Int) := by omega
  have ws := wr_succ hj (by omega)
  have gr := getI_nat hr
  obtain ⟨v0, hv0⟩ : ∃ v0, row[j]? = some v0 := ⟨row[j], List.getElem?_eq_getElem (by omega)⟩
  have gv := getI_nat hv0
  have ga := getI_fAt hi
  have gb := getI_fAt hj
  have fc := featCost_ok (fAt_ok fa i) (fAt_ok fb j)
  have hc0 : 0 ≤ fcost (fAt a i) (fAt b j) ∧ fcost (fAt a i) (fAt b j) ≤ 1000 := hC i j
  have st1 : ∀ x : Sl Part, setS (some T) (i : Int) x = some (T.set i x) := fun x => by simp only [setS, Option.map_some, Int.toNat_natCast]
  have st2 : ∀ x : Part, setS (some row) (j : Int) x = some (row.set j x) := fun x => by simp only [setS, Option.map_some, Int.toNat_natCast]
  by_cases i0 : i = 0
  · have I1 : decide ((i : Int) = 0) = true := decide_eq_true (by omega)
    obtain ⟨u, e, l1, o1, m1⟩ := pbest_ok (T := T) (i := i) (j := j) (by omega) (by omega) hT ⟨0, (j : Int)⟩
    simp only at e l1
    have u0 : 0 ≤ u.cost := by
      rcases o1 with rfl | ⟨p, q, hp, hv⟩
      · exact Int.le_refl _
      · exact (po p q u hp hv).2.1
    have uz : u.cost = 0 := by omega
    have w : wr (u.cost + fcost (fAt a i) (fAt b j)) = u.cost + elC a b i j := wr_id (by omega) (by omega)
    refine ⟨⟨u.cost + elC a b i j, u.frm⟩, ?_, ?_⟩
    · unfold s1_impl_PartElastic t_impl_stepsBack
      simp only [Option.getD_some, c, decide_true, cond_true, I1, obind_sm, e, ga, gb, fc, gr, gv, w, st1, st2, ws]
    · have hmin : ∀ g c, PF (elC a b) g i j c → u.cost + elC a b i j ≤ c := by
        intro g c hg
        rcases hg.inv with ⟨_, _, h3⟩ | ⟨p, q, c', h1, h2, h3⟩
        · rw [i0, h3]
          omega
        · have := (h1.bound hC (hpre p q h2).2.2.1 (hpre p q h2).2.2.2).1
          omega
      rcases o1 with rfl | ⟨p, q, hp, hv⟩
      · refine ⟨j, rfl, ?_, hmin⟩
        have := PF.start (C := elC a b) j
        show PF _ j i j (0 + elC a b i j)
        rw [Int.zero_add, i0]
        exact this
      · obtain ⟨f, h1, h2, h3⟩ := (po p q u hp hv).1
        exact ⟨f, h1, h2.step hp, hmin⟩
  · have I1 : decide ((i : Int) = 0) = false := decide_eq_false (by omega)
    obtain ⟨u, e, l1, o1, m1⟩ := pbest_ok (T := T) (i := i) (j := j) (by omega) (by omega) hT ⟨1099511627776, 0⟩
    simp only at e l1
    have hu : ∃ p q, Pre p q i j ∧ PVal T p q u := by
      rcases o1 with rfl | o1
      · obtain ⟨v, hv⟩ := hT _ _ (pre_u (j := j) i0)
        have q1 := m1 _ _ v (pre_u i0) hv
        have q2 := (po _ _ v (pre_u i0) hv).2.2
        simp only at q1
        omega
      · exact o1
    obtain ⟨p, q, hp, hv⟩ := hu
    obtain ⟨⟨f, h1, h2, h3⟩, u0, u1⟩ := po p q u hp hv
    have w : wr (u.cost + fcost (fAt a i) (fAt b j)) = u.cost + elC a b i j := wr_id (by omega) (by omega)
    refine ⟨⟨u.cost + elC a b i j, u.frm⟩, ?_, f, h1, h2.step hp, ?_⟩
    · unfold s1_impl_PartElastic t_impl_stepsBack
      simp only [Option.getD_some, c, decide_true, cond_true, I1, cond_false, obind_sm, s34_part, e, ga, gb, fc, gr, gv, w, st1, st2, ws]
    · intro g c hg
      rcases hg.inv with ⟨h4, _, _⟩ | ⟨p', q', c', h4, h5, h6⟩
      · exact absurd h4 i0
      · obtain ⟨v, hv'⟩ := hT _ _ h5
        have q1 := m1 _ _ v h5 hv'
        obtain ⟨⟨f', _, _, h7⟩, _, _⟩ := po _ _ v h5 hv'
        have q2 := h7 g c' h4
        show u.cost + elC a b i j ≤ c
        omega

theorem rows_set {m : Nat} {T : List (Sl Part)} {i : Nat} {r : List Part} (h : ∀ (k : Nat) (row : List Part), T[k]? = some (some row) → row.length = m) (hr : r.length = m) : ∀ (k : Nat) (row : List Part), (T.set i (some r))[k]? = some (some row) → row.length = m := by
  intro k row hk
  by_cases c : i = k
  · subst c
    have hlt := get_lt hk
    rw [List.length_set] at hlt
    rw [List.getElem?_set_self hlt] at hk
    cases hk
    exact hr
  · rw [List.getElem?_set_ne c] at hk
    exact h k row hk

theorem PTbl.step {a b : List Feat} {i j : Nat} {T : List (Sl Part)} {row : List Part} {v : Part} (h : PTbl a b i j T) (hr : T[i]? = some (some row)) (hj : j < b.length) (ho : PO (elC a b) i j v) : PTbl a b i (j + 1) (T.set i (some (row.set j v))) := by
  have hl := h.rows _ _ hr
  refine ⟨by rw [List.length_set, h.len], rows_set h.rows (by rw [List.length_set, hl]), fun p q hq hpq => ?_⟩
  by_cases e : p = i ∧ q = j
  · obtain ⟨rfl, rfl⟩ := e
    exact ⟨v, (PVal.set hr (by omega)).2 (.inl ⟨rfl, rfl, rfl⟩), ho⟩
  · obtain ⟨w, h1, h2⟩ := h.val p q hq (by omega)
    exact ⟨w, (PVal.set hr (by omega)).2 (.inr ⟨e, h1⟩), h2⟩

theorem part_table {a b : List Feat} (fa : ∀ f ∈ a, FOK f) (fb : ∀ f ∈ b, FOK f) (la : a.length ≤ 72) (lb : b.length ≤ 72) :
    ∃ T, loopT (s0_impl_PartElastic (some a) (some b)) (some (List.replicate a.length none), 0) = some (some T) ∧ PTbl a b a.length 0 T := by
  have mk : makeO (⟨0, 0⟩ : Part) ((b.length : Nat) : Int) = some (List.replicate b.length ⟨0, 0⟩) := by
    unfold makeO
    rw [if_pos ⟨by omega, by omega⟩, Int.toNat_natCast]
  have inner : ∀ (i : Nat), i < a.length → ∀ (T : List (Sl Part)) (row : List Part), PTbl a b i 0 T → T[i]? = some (some row) → ∃ T', loopT (s1_impl_PartElastic (some a) (some b) (i : Int)) (some T, 0) = some (some T') ∧ PTbl a b (i + 1) 0 T' := by
    intro i hi T row h hr
    obtain ⟨r, h1, h2⟩ := loopT_ex (step := s1_impl_PartElastic (some a) (some b) (i : Int)) (fun j s => ∃ T row, s = (some T, (j : Int)) ∧ PTbl a b i j T ∧ T[i]? = some (some row)) b.length (fun r => ∃ T', r = some T' ∧ PTbl a b (i + 1) 0 T')
      (fun j s hj hs => by
        obtain ⟨T, row, rfl, h, hr⟩ := hs
        obtain ⟨v, e, ho⟩ := part_cell fa fb la lb hi hj h hr
        exact .inl ⟨_, e, _, row.set j v, rfl, h.step hr hj ho, List.getElem?_set_self (get_lt hr)⟩)
      (fun s hs => by
        obtain ⟨T, row, rfl, h, hr⟩ := hs
        refine ⟨some T, ?_, T, rfl, h.len, h.rows, fun p q hq hpq => h.val p q hq (by omega)⟩
        unfold s1_impl_PartElastic
        simp only [Option.getD_some, Int.lt_irrefl, decide_false, cond_false])
      (s := (some T, 0)) ⟨T, row, rfl, h, hr⟩
    obtain ⟨T', rfl, h3⟩ := h2
    exact ⟨T', h1, h3⟩
  obtain ⟨r, h1, h2⟩ := loopT_ex (step := s0_impl_PartElastic (some a) (some b)) (fun i s => ∃ T, s = (some T, (i : Int)) ∧ PTbl a b i 0 T) a.length (fun r => ∃ T, r = some T ∧ PTbl a b a.length 0 T)
    (fun i s hi hs => by
      obtain ⟨T, rfl, h⟩ := hs
      have c : (i : Int) < ((a.length : Nat) : Int) := by omega
      obtain ⟨x, hx⟩ : ∃ x, T[i]? = some x := ⟨T[i]'(by rw [h.len]; exact hi), List.getElem?_eq_getElem (by rw [h.len]; exact hi)⟩
      have st1 : ∀ x : Sl Part, setS (some T) (i : Int) x = some (T.set i x) := fun x => by simp only [setS, Option.map_some, Int.toNat_natCast]
      have hT : PTbl a b i 0 (T.set i (some (List.replicate b.length ⟨0, 0⟩))) := ⟨by rw [List.length_set, h.len], rows_set h.rows List.length_replicate, fun p q hq hpq => by
        obtain ⟨v, ⟨r, h3, h4⟩, h5⟩ := h.val p q hq hpq
        exact ⟨v, ⟨r, by rw [List.getElem?_set_ne (by omega)]; exact h3, h4⟩, h5⟩⟩
      obtain ⟨T', e, h'⟩ := inner i hi _ _ hT (List.getElem?_set_self (get_lt hx))
      refine .inl ⟨(some T', ((i + 1 : Nat) : Int)), ?_, T', rfl, h'⟩
      unfold s0_impl_PartElastic
      simp only [Option.getD_some, c, decide_true, cond_true, mk, obind_sm, getI_nat hx, st1, e, wr_succ hi (by omega)])
    (fun s hs => by
      obtain ⟨T, rfl, h⟩ := hs
      refine ⟨some T, ?_, T, rfl, h⟩
      unfold s0_impl_PartElastic
      simp only [Option.getD_some, Int.lt_irrefl, decide_false, cond_false])
    (s := (some (List.replicate a.length none), 0)) ⟨_, rfl, by simp, fun k row hk => (by
      rw [List.getElem?_replicate] at hk
      split at hk <;> cases hk), fun p q _ h => by omega⟩
  obtain ⟨T, rfl, h3⟩ := h2
  exact ⟨T, h1, h3⟩

/-- The first of the least entries of a row. -/
theorem least_row {row : List Part} (hl : row.length ≤ 100) (h0 : 1 ≤ row.length) : ∃ t : Nat, loopT (s2_impl_PartElastic (some row)) (0, 0) = some (t : Int) ∧ t < row.length ∧ ∀ (q : Nat) (x y : Part), row[t]? = some x → row[q]? = some y → x.cost ≤ y.cost := by
  obtain ⟨r, h1, t, rfl, h2, h3⟩ := loopT_ex (step := s2_impl_PartElastic (some row)) (fun k s => ∃ t : Nat, s = ((t : Int), (k : Int)) ∧ t < row.length ∧ ∀ (q : Nat) (x y : Part), q < k → row[t]? = some x → row[q]? = some y → x.cost ≤ y.cost) row.length (fun r => ∃ t : Nat, r = (t : Int) ∧ t < row.length ∧ ∀ (q : Nat) (x y : Part), q < row.length → row[t]? = some x → row[q]? = some y → x.cost ≤ y.cost)
    (fun k s hk hs => by
      obtain ⟨t, rfl, ht, hm⟩ := hs
      have c : (k : Int) < ((row.length : Nat) : Int) := by omega
      obtain ⟨x, hx⟩ : ∃ x, row[t]? = some x := ⟨row[t], List.getElem?_eq_getElem ht⟩
      obtain ⟨y, hy⟩ : ∃ y, row[k]? = some y := ⟨row[k], List.getElem?_eq_getElem hk⟩
      have ws := wr_succ hk (by omega)
      by_cases d : y.cost < x.cost
      · refine .inl ⟨((k : Int), ((k + 1 : Nat) : Int)), ?_, k, rfl, hk, ?_⟩
        · unfold s2_impl_PartElastic
          simp only [Option.getD_some, c, decide_true, cond_true, getI_nat hx, getI_nat hy, obind_sm, d, ws]
        · intro q x' y' hq h1 h2
          rw [hy] at h1
          cases h1
          by_cases e : q = k
          · subst e
            rw [hy] at h2
            cases h2
            exact Int.le_refl _
          · have := hm q x y' (by omega) hx h2
            omega
      · refine .inl ⟨((t : Int), ((k + 1 : Nat) : Int)), ?_, t, rfl, ht, ?_⟩
        · unfold s2_impl_PartElastic
          simp only [Option.getD_some, c, decide_true, cond_true, getI_nat hx, getI_nat hy, obind_sm, d, decide_false, cond_false, ws]
        · intro q x' y' hq h1 h2
          rw [hx] at h1
          cases h1
          by_cases e : q = k
          · subst e
            rw [hy] at h2
            cases h2
            omega
          · exact hm q x y' (by omega) hx h2)
    (fun s hs => by
      obtain ⟨t, rfl, ht, hm⟩ := hs
      refine ⟨(t : Int), ?_, t, rfl, ht, hm⟩
      unfold s2_impl_PartElastic
      simp only [Option.getD_some, Int.lt_irrefl, decide_false, cond_false])
    (s := (0, 0)) ⟨0, rfl, h0, fun q x y h => by omega⟩
  exact ⟨t, h1, h2, fun q x y hx hy => h3 q x y (get_lt hy) hx hy⟩

theorem part_ok {a b : List Feat} (fa : ∀ f ∈ a, FOK f) (fb : ∀ f ∈ b, FOK f) (a1 : 1 ≤ a.length) (la : a.length ≤ 72) (b1 : 1 ≤ b.length) (lb : b.length ≤ 72) :
    ∃ (c : Int) (f t : Nat), t_impl_PartElastic (some a) (some b) = some (c, (f : Int), ((t + 1 : Nat) : Int), 0) ∧ t < b.length ∧ PF (elC a b) f (a.length - 1) t c ∧ ∀ g s d, s < b.length → PF (elC a b) g (a.length - 1) s d → c ≤ d := by
  obtain ⟨T, e, h⟩ := part_table fa fb la lb
  have val : ∀ q, q < b.length → ∃ v, PVal T (a.length - 1) q v ∧ PO (elC a b) (a.length - 1) q v := fun q hq => h.val _ q hq (.inl (by omega))
  obtain ⟨_, ⟨row, hr, _⟩, _⟩ := val 0 (by omega)
  have hl := h.rows _ _ hr
  have val' : ∀ q, q < b.length → ∃ v, row[q]? = some v ∧ PO (elC a b) (a.length - 1) q v := fun q hq => by
    obtain ⟨v, ⟨r, h1, h2⟩, h3⟩ := val q hq
    rw [hr] at h1
    cases h1
    exact ⟨v, h2, h3⟩
  obtain ⟨t, e2, ht, hm⟩ := least_row (row := row) (by omega) (by omega)
  obtain ⟨x, hx, f, hf, p1, p2⟩ := val' t (by omega)
  have mk : makeO (none : Sl Part) ((a.length : Nat) : Int) = some (List.replicate a.length none) := by
    unfold makeO
    rw [if_pos ⟨by omega, by omega⟩, Int.toNat_natCast]
  have w1 : wr ((a.length : Int) - 1) = ((a.length - 1 : Nat) : Int) := by rw [wr_id (by omega) (by omega)]; omega
  have w2 : wr ((t : Int) + 1) = ((t + 1 : Nat) : Int) := by rw [wr_id (by omega) (by omega)]; omega
  have v1 := validSeq_ok fa a1 la
  have v2 := validSeq_ok fb b1 lb
  refine ⟨x.cost, f, t, ?_, by omega, p1, fun g s d hs hg => ?_⟩
  · unfold t_impl_PartElastic
    simp only [v1, v2, obind_sm, Bool.not_true, cond_false, Option.getD_some, mk, e, w1, getI_nat hr, e2, getI_nat hx, w2, hf]
  · obtain ⟨y, hy, f', _, _, p3⟩ := val' s hs
    have := hm s x y hx hy
    have := p3 g d hg
    omega

theorem subS_ok {A : Type} {l : List A} {f t : Nat} (h1 : f ≤ t) (h2 : t ≤ l.length) : subS (some l) (some (f : Int)) (some (t : Int)) = some (some ((l.take t).drop f)) := by
  have e1 : idx (iv (t : Int)) (l.length + 1) = some t := idx_lt (by omega)
  have e2 : idx (iv (f : Int)) (t + 1) = some f := idx_lt (by omega)
  unfold subS bndI
  simp only [Option.getD_some, e1, e2, obind_sm, Option.map_some]

theorem fAt_sub {l : List Feat} {f t q : Nat} (h : q + f < t) : fAt ((l.take t).drop f) q = fAt l (q + f) := by
  unfold fAt
  rw [List.getD_eq_getElem?_getD, List.getD_eq_getElem?_getD, List.getElem?_drop, List.getElem?_take, if_pos (by omega), Nat.add_comm]

theorem fAt_app {l r : List Feat} {q : Nat} : fAt (l ++ r) (q + l.length) = fAt r q := by
  unfold fAt
  rw [List.getD_eq_getElem?_getD, List.getD_eq_getElem?_getD, List.getElem?_append_right (by omega), Nat.add_sub_cancel]

theorem a2feats_ex (code : Sl UInt8) : ∃ l, t_spec_A2Feats code = some (some l) ∧ 1 ≤ l.length ∧ l.length ≤ 9 ∧ ∀ f ∈ l, FOK f := by
  obtain ⟨a, s1, e1, k1, la1, la2, fa⟩ := dr_feats (s := ⟨code, 0, 0⟩) (k := 0) ⟨by simp, by simp⟩ (by omega) (most := 9) (by omega) (by omega)
  refine ⟨a, ?_, la1, by omega, fa⟩
  unfold t_spec_A2Feats
  simp only [e1, obind_sm]

theorem true_FnParts (code more : Sl UInt8) : t_laws_FnParts code more = some true := by
  unfold t_laws_FnParts t_laws_a2Long
  by_cases c1 : 3000 < (((code.getD []).length : Nat) : Int)
  · simp [c1]
  by_cases c2 : 3000 < (((more.getD []).length : Nat) : Int)
  · simp [c1, c2]
  obtain ⟨a, e1, a1, a2, fa⟩ := a2feats_ex code
  obtain ⟨b, e2, b1, b2, fb⟩ := a2feats_ex more
  obtain ⟨c, f, t, E1, ht, p1, p2⟩ := part_ok fa fb a1 (by omega) b1 (by omega)
  have hft : f ≤ t := p1.1
  have sub := subS_ok (l := b) (f := f) (t := t + 1) (by omega) (by omega)
  have sl : ((b.take (t + 1)).drop f).length = t + 1 - f := by rw [List.length_drop, List.length_take]; omega
  have fs : ∀ g ∈ (b.take (t + 1)).drop f, FOK g := fun g hg => fb g (List.mem_of_mem_take (List.mem_of_mem_drop hg))
  obtain ⟨v, E2, o2⟩ := specElastic_ok fa fs a1 (by omega) (by omega) (by omega)
  obtain ⟨w, E3, o3⟩ := specElastic_ok fa fb a1 (by omega) b1 (by omega)
  have fl : ∀ g ∈ b ++ a, FOK g := fun g hg => by
    rcases List.mem_append.1 hg with hg | hg
    · exact fb g hg
    · exact fa g hg
  obtain ⟨z, f', t', E4, ht', p3, p4⟩ := part_ok fa fl a1 (by omega) (by rw [List.length_append]; omega) (by rw [List.length_append]; omega)
  rw [sl] at o2
  have et : t + 1 - f - 1 = t - f := by omega
  rw [et] at o2
  have q1 : c = v := by
    have hv := (o2.of (c := c) (p1.2.mono (fun p q hp hq _ => el_in (N := 72) (M := 72) (by omega) (by omega) p q (by omega) (by omega)) (fun p q _ hq => by
      show fcost _ _ = fcost _ _
      rw [fAt_sub (by omega)])))
    have hp : PF (elC a b) f (a.length - 1) t v := ⟨hft, hv.2.1.mono (fun _ _ _ _ _ => trivial) (fun p q _ hq => by
      show fcost _ _ = fcost _ _
      rw [fAt_sub (by omega)])⟩
    have := p2 _ _ _ ht hp
    omega
  have q2 : c ≤ w := by
    obtain ⟨d, hd⟩ := band_path (C := elC a b) (band := 72) (by omega) (a.length - 1) (b.length - 1) (by omega) (by omega)
    have hw := (o3.of hd).2.1
    exact p2 0 (b.length - 1) w (by omega) ⟨by omega, hw.mono (fun _ _ _ _ _ => trivial) (fun p q _ hq => rfl)⟩
  have q3 : z = 0 := by
    have hd := Pth.diag (C := fun p q => elC a (b ++ a) p (q + b.length)) (R := fun _ _ => True) (fun i => by
      show fcost _ _ = 0
      rw [fAt_app, fcost_self]) (fun _ => trivial) (a.length - 1)
    have := p4 b.length (b.length + (a.length - 1)) 0 (by rw [List.length_append]; omega) ⟨by omega, by rw [Nat.add_sub_cancel_left]; exact hd⟩
    have hb := p3.bound (elC_le fa fl) (by omega) (by rw [List.length_append] at ht'; omega)
    omega
  have ap1 := appO_some (s := some ([] : List Feat)) (l := b) (by simp; omega)
  have ap2 := appO_some (s := appS (some ([] : List Feat)) b) (l := a) (by simp [appS]; omega)
  have ee : appS (appS (some ([] : List Feat)) b) a = some (b ++ a) := by simp [appS]
  have r1 : ¬ (f : Int) < 0 := by omega
  have r2 : ¬ ((t + 1 : Nat) : Int) ≤ (f : Int) := by omega
  have r3 : ¬ ((b.length : Nat) : Int) < ((t + 1 : Nat) : Int) := by omega
  subst q1 q3
  simp only [c1, c2, decide_false, cond_false, obind_sm, e1, e2, E1, Option.getD_some, r1, r2, r3, decide_true, Bool.not_true, sub, E2, E3, ap1, ap2, ee, E4, cond_true, q2]

theorem ok_laws_FnParts : PureOK Try.prog n_laws_FnParts (G2 (fun a b : Sl UInt8 => Wt.big a && Wt.big b) fun _ _ => bv true) := lawC2 tt_laws_FnParts fun a b _ => true_FnParts a b

theorem law_FnParts (a b : Sl UInt8) (ha : Row.fine a) (hb : Row.fine b) : G2 (fun a b : Sl UInt8 => Wt.big a && Wt.big b) (fun _ _ => bv true) [enc a, enc b] = some (bv true) := G2_enc _ _ a b (by simp [Wt.fb a ha, Wt.fb b hb])

theorem isC_5 {cs : List AV} (h : IsC Try.prog 5 cs) : ∃ x : UInt8, cs = Row.cells x ∧ Row.fine x := by
  obtain ⟨n, rfl, hn⟩ := IsC.intE Try.underlying5 h
  exact byte_of hn
theorem isC_22 {cs : List AV} (h : IsC Try.prog 22 cs) : ∃ x : (Sl UInt8), cs = Row.cells x ∧ Row.fine x := by
  rcases IsC.sliceE Try.underlying22 h with rfl | ⟨rows, rfl, h1, h2⟩
  · exact ⟨none, rfl, Sl.fineNil⟩
  · exact Sl.isC (by kernel_rfl) h1 fun row hr => isC_5 (h2 row hr)
theorem own : ownKnob Try.prog.godebug = none := by kernel_rfl
theorem laidOut : laidOutB Try.prog = true := by kernel_rfl

set_option maxRecDepth 100000 in
theorem holds : Rows.FnPartsSaid :=
  OpenClaim.holds_of_wide 3 Try.f3 rfl rfl rfl rfl rfl rfl rfl ⟨rfl, rfl, rfl, rfl, rfl⟩ rfl rfl rfl rfl rfl (by kernel_rfl) Try.func3 (by kernel_rfl)
    (of_decide_eq_true (by kernel_rfl)) (by unfold Func.isWrapper; rw [if_neg (by decide +kernel)]; exact ⟨rfl, rfl⟩)
    (fun os started H enc _ => law_lifted (C := Try.checked) (s := Rows.fnPartsSpec) own started (by kernel_rfl) Try.func3
      (ChangeSpec.witness6 (enc := enc) (C := Try.checked) false ⟨#[], #[.slice none 0 0, .slice none 0 0], []⟩ 8 (by kernel_rfl) (by kernel_rfl) (by kernel_rfl) (by kernel_rfl))
      laidOut rfl (tb := 4) rfl Try.underlying4 (ts := [22, 5]) (by kernel_rfl)
      (fun ds h => by match ds, h with | [d0, d1], _ => rfl)
      hb_laws_FnParts ok_laws_FnParts (by
    intro l h
    obtain ⟨a0, l0, rfl, g0, k0⟩ := h
    obtain ⟨a1, l1, rfl, g1, k1⟩ := k0
    cases k1
    obtain ⟨b0, e0, w0⟩ := isC_22 (isV_one (by kernel_rfl) g0)
    obtain rfl := one_enc e0
    obtain ⟨b1, e1, w1⟩ := isC_22 (isV_one (by kernel_rfl) g1)
    obtain rfl := one_enc e1
    exact law_FnParts b0 b1 w0 w1))
#print axioms holds
end Go.Proofs.Ytdklppipegepdaa
