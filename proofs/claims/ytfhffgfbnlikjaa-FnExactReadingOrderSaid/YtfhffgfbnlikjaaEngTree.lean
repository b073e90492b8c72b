import Derived.Test.YtfhffgfbnlikjaaEngGua
namespace Go.Eng
set_option linter.unusedVariables false
set_option linter.unusedSimpArgs false
open Cod (enc dec)
def tr : Nat → AV → Bool
  | _, .sc _ => true
  | d + 1, .agg cs => cs.all (tr d)
  | d + 1, .nw _ rows => rows.all fun r => r.all (tr d)
  | _, _ => false
def frz : Nat → AV → AV
  | d + 1, .agg cs => .agg (cs.map (frz d))
  | d + 1, .nw k rows => .fs k (rows.map fun r => r.map (frz d))
  | _, a => a
structure Rels (h : kA4) (d : Nat) (v r : AV) (lo hi : Nat) : Prop where
  le : lo ≤ hi
  rel : rel h d v = some r
  nd : ((ids h d v).map (·.1)).Nodup
  rng : ∀ x ∈ (ids h d v).map (·.1), lo ≤ x ∧ x < hi
structure RelsL (h : kA4) (d : Nat) (vs rs : List AV) (lo hi : Nat) : Prop where
  le : lo ≤ hi
  rel : kBb (Eng.rel h d) vs = some rs
  nd : ((vs.flatMap (ids h d)).map (·.1)).Nodup
  rng : ∀ x ∈ (vs.flatMap (ids h d)).map (·.1), lo ≤ x ∧ x < hi
structure RelsR (h : kA4) (d : Nat) (vs rs : List (List AV)) (lo hi : Nat) : Prop where
  le : lo ≤ hi
  rel : kBb (kBb (Eng.rel h d)) vs = some rs
  nd : ((vs.flatMap fun r => r.flatMap (ids h d)).map (·.1)).Nodup
  rng : ∀ x ∈ (vs.flatMap fun r => r.flatMap (ids h d)).map (·.1), lo ≤ x ∧ x < hi
theorem nodupB_of : ∀ {l : List Nat}, l.Nodup → nodupB l = true
  | [], _ => rfl
  | a :: l, h => by
    rw [List.nodup_cons] at h
    simp [nodupB, h.1, nodupB_of h.2]
theorem Rels.release {h : kA4} {v r : AV} {lo hi : Nat} (R : Rels h depth v r lo hi) : release h depth v = some r := by
  unfold Eng.release
  rw [nodupB_of R.nd]
  exact R.rel
theorem Rels.sc {h : kA4} {d : Nat} {a : AV} (lo : Nat) (ha : isSc a = true) : Rels h d a a lo lo := by
  have h1 := ids_sc h d ha
  exact ⟨Nat.le_refl _, rel_sc h d ha, by simp [h1], by simp [h1]⟩
theorem RelsL.nil {h : kA4} {d : Nat} (lo : Nat) : RelsL h d [] [] lo lo := ⟨Nat.le_refl _, rfl, by simp, by simp⟩
theorem RelsR.nil {h : kA4} {d : Nat} (lo : Nat) : RelsR h d [] [] lo lo := ⟨Nat.le_refl _, rfl, by simp, by simp⟩
theorem nd_app {l1 l2 : List Nat} {lo mid hi : Nat} (h1 : l1.Nodup) (r1 : ∀ x ∈ l1, lo ≤ x ∧ x < mid) (h2 : l2.Nodup) (r2 : ∀ x ∈ l2, mid ≤ x ∧ x < hi) : (l1 ++ l2).Nodup := by
  rw [List.nodup_append]
  refine ⟨h1, h2, fun a ha b hb e => ?_⟩
  have := r1 a ha
  have := r2 b hb
  omega
theorem RelsL.cons {h : kA4} {d : Nat} {v r : AV} {vs rs : List AV} {lo mid hi : Nat} (R : Rels h d v r lo mid) (S : RelsL h d vs rs mid hi) : RelsL h d (v :: vs) (r :: rs) lo hi := by
  refine ⟨Nat.le_trans R.le S.le, by simp [kBb, R.rel, S.rel], ?_, fun x hx => ?_⟩
  · simp only [List.flatMap_cons, List.map_append]
    exact nd_app R.nd R.rng S.nd S.rng
  · simp only [List.flatMap_cons, List.map_append, List.mem_append] at hx
    have := R.le
    have := S.le
    rcases hx with hx | hx
    · have := R.rng x hx; omega
    · have := S.rng x hx; omega
theorem RelsR.cons {h : kA4} {d : Nat} {v r : List AV} {vs rs : List (List AV)} {lo mid hi : Nat} (R : RelsL h d v r lo mid) (S : RelsR h d vs rs mid hi) : RelsR h d (v :: vs) (r :: rs) lo hi := by
  refine ⟨Nat.le_trans R.le S.le, by simp [kBb, R.rel, S.rel], ?_, fun x hx => ?_⟩
  · simp only [List.flatMap_cons, List.map_append]
    exact nd_app R.nd R.rng S.nd S.rng
  · simp only [List.flatMap_cons, List.map_append, List.mem_append] at hx
    have := R.le
    have := S.le
    rcases hx with hx | hx
    · have := R.rng x hx; omega
    · have := S.rng x hx; omega
theorem RelsL.agg {h : kA4} {d : Nat} {vs rs : List AV} {lo hi : Nat} (S : RelsL h d vs rs lo hi) : Rels h (d + 1) (.agg vs) (.agg rs) lo hi := by
  refine ⟨S.le, ?_, S.nd, S.rng⟩
  show (match kBb (Eng.rel h d) vs with | some cs => some (AV.agg cs) | none => none) = _
  rw [S.rel]
theorem RelsL.tup {h : kA4} {d : Nat} {vs rs : List AV} {lo hi : Nat} (S : RelsL h d vs rs lo hi) : Rels h (d + 1) (.tup vs) (.tup rs) lo hi := by
  refine ⟨S.le, ?_, S.nd, S.rng⟩
  show (match kBb (Eng.rel h d) vs with | some cs => some (AV.tup cs) | none => none) = _
  rw [S.rel]
theorem RelsR.sl {h : kA4} {d : Nat} {o k n ep : Nat} {ws : List (List AV)} {rs : List (List AV)} {hi : Nat} (ho : h[o]? = some ⟨k, ws⟩) (he : ws.length = ep) (hn : n ≤ ep) (S : RelsR h d (ws.take n) rs (o + 1) hi) :
    Rels h (d + 1) (.sl o ep 0 n) (.nw k rs) o hi := by
  have hids : ids h (d + 1) (.sl o ep 0 n) = (o, n) :: (ws.take n).flatMap fun r => r.flatMap (ids h d) := by
    show (match h[o]? with | some ob => (o, n) :: (ob.rows.take n).flatMap fun (r : List AV) => r.flatMap (ids h d) | none => []) = _
    rw [ho]
  have := S.le
  refine ⟨by omega, ?_, ?_, fun x hx => ?_⟩
  · show (match h[o]? with | some ob => if ob.rows.length = ep ∧ 0 = 0 ∧ n ≤ ep then match kBb (kBb (Eng.rel h d)) (ob.rows.take n) with | some rows => some (AV.nw ob.k rows) | none => none else none | none => none) = _
    rw [ho]
    simp [he, hn, S.rel]
  · rw [hids]
    simp only [List.map_cons, List.nodup_cons]
    exact ⟨fun hx => by have := S.rng _ hx; omega, S.nd⟩
  · rw [hids] at hx
    simp only [List.map_cons, List.mem_cons] at hx
    rcases hx with rfl | hx
    · omega
    · have := S.rng x hx; omega
theorem matR_len (m : AV → Nat → AV × kA4) : ∀ (rows : List (List AV)) (b : Nat), (kCt m rows b).1.length = rows.length
  | [], _ => rfl
  | r :: rows, b => by simp [kCt, matR_len m rows]
structure Mats (d : Nat) (r : AV) : Prop where
  go : ∀ (D D2 b : Nat) (h h2 : kA4), d ≤ D → d ≤ D2 → h.length = b →
    snap (h ++ (mat D r b).2 ++ h2) D2 (mat D r b).1 = some (frz d r) ∧ Rels (h ++ (mat D r b).2 ++ h2) D2 (mat D r b).1 r b (b + (mat D r b).2.length)
  noF : ∀ D, d ≤ D → Eng.noF D r = true
  flat : r.flat = true → ∀ D b, d ≤ D → (mat D r b).1.flat = true
theorem Mats.list {d : Nat} : ∀ {cs : List AV}, (∀ c ∈ cs, Mats d c) → ∀ (D D2 b : Nat) (h h2 : kA4), d ≤ D → d ≤ D2 → h.length = b →
    kBb (snap (h ++ (kC0 (mat D) cs b).2 ++ h2) D2) (kC0 (mat D) cs b).1 = some (cs.map (frz d)) ∧ RelsL (h ++ (kC0 (mat D) cs b).2 ++ h2) D2 (kC0 (mat D) cs b).1 cs b (b + (kC0 (mat D) cs b).2.length)
  | [], _, _, _, b, _, _, _, _, _ => ⟨rfl, RelsL.nil b⟩
  | c :: cs, hc, D, D2, b, h, h2, hD, hD2, hb => by
    obtain ⟨s1, r1⟩ := (hc c (by simp)).go D D2 b h ((kC0 (mat D) cs (b + (mat D c b).2.length)).2 ++ h2) hD hD2 hb
    obtain ⟨s2, r2⟩ := Mats.list (cs := cs) (fun x hx => hc x (List.mem_cons_of_mem _ hx)) D D2 (b + (mat D c b).2.length) (h ++ (mat D c b).2) h2 hD hD2 (by simp [hb])
    have e1 : h ++ (kC0 (mat D) (c :: cs) b).2 ++ h2 = h ++ (mat D c b).2 ++ ((kC0 (mat D) cs (b + (mat D c b).2.length)).2 ++ h2) := by simp [kC0]
    have e2 : h ++ (kC0 (mat D) (c :: cs) b).2 ++ h2 = h ++ (mat D c b).2 ++ (kC0 (mat D) cs (b + (mat D c b).2.length)).2 ++ h2 := by simp [kC0]
    rw [← e1] at s1 r1
    rw [← e2] at s2 r2
    refine ⟨?_, ?_⟩
    · show kBb _ ((mat D c b).1 :: _) = _
      simp only [kBb, s1, s2, List.map_cons]
    · have := RelsL.cons r1 r2
      simpa [kC0, Nat.add_assoc] using this
theorem Mats.rows {d : Nat} : ∀ {rs : List (List AV)}, (∀ r ∈ rs, ∀ c ∈ r, Mats d c) → ∀ (D D2 b : Nat) (h h2 : kA4), d ≤ D → d ≤ D2 → h.length = b →
    kBb (kBb (snap (h ++ (kCt (mat D) rs b).2 ++ h2) D2)) (kCt (mat D) rs b).1 = some (rs.map fun r => r.map (frz d)) ∧ RelsR (h ++ (kCt (mat D) rs b).2 ++ h2) D2 (kCt (mat D) rs b).1 rs b (b + (kCt (mat D) rs b).2.length)
  | [], _, _, _, b, _, _, _, _, _ => ⟨rfl, RelsR.nil b⟩
  | c :: cs, hc, D, D2, b, h, h2, hD, hD2, hb => by
    obtain ⟨s1, r1⟩ := Mats.list (hc c (by simp)) D D2 b h ((kCt (mat D) cs (b + (kC0 (mat D) c b).2.length)).2 ++ h2) hD hD2 hb
    obtain ⟨s2, r2⟩ := Mats.rows (rs := cs) (fun x hx => hc x (List.mem_cons_of_mem _ hx)) D D2 (b + (kC0 (mat D) c b).2.length) (h ++ (kC0 (mat D) c b).2) h2 hD hD2 (by simp [hb])
    have e1 : h ++ (kCt (mat D) (c :: cs) b).2 ++ h2 = h ++ (kC0 (mat D) c b).2 ++ ((kCt (mat D) cs (b + (kC0 (mat D) c b).2.length)).2 ++ h2) := by simp [kCt]
    have e2 : h ++ (kCt (mat D) (c :: cs) b).2 ++ h2 = h ++ (kC0 (mat D) c b).2 ++ (kCt (mat D) cs (b + (kC0 (mat D) c b).2.length)).2 ++ h2 := by simp [kCt]
    rw [← e1] at s1 r1
    rw [← e2] at s2 r2
    refine ⟨?_, ?_⟩
    · show kBb _ ((kC0 (mat D) c b).1 :: _) = _
      simp only [kBb, s1, s2, List.map_cons]
    · have := RelsR.cons r1 r2
      simpa [kCt, Nat.add_assoc] using this
theorem mats : ∀ (d : Nat) (r : AV), tr d r = true → Mats d r := by
  intro d
  induction d with
  | zero =>
    intro r hr
    cases r <;> simp [tr] at hr
    rename_i v
    refine ⟨fun D D2 b h h2 _ _ _ => ?_, fun D _ => noF_sc D rfl, fun _ D b _ => by rw [kGk D b rfl]; rfl⟩
    rw [kGk D b rfl]
    exact ⟨kHw _ _ rfl, by simpa using Rels.sc b rfl⟩
  | succ d ih =>
    intro r hr
    cases r <;> simp only [tr, Bool.false_eq_true, List.all_eq_true] at hr
    case sc v =>
      refine ⟨fun D D2 b h h2 _ _ _ => ?_, fun D _ => noF_sc D rfl, fun _ D b _ => by rw [kGk D b rfl]; rfl⟩
      rw [kGk D b rfl]
      exact ⟨kHw _ _ rfl, by simpa using Rels.sc b rfl⟩
    case agg cs =>
      refine ⟨fun D D2 b h h2 hD hD2 hb => ?_, fun D hD => ?_, fun hf => by cases hf⟩
      · obtain ⟨D, rfl⟩ : ∃ D', D = D' + 1 := ⟨D - 1, by omega⟩
        obtain ⟨D2, rfl⟩ : ∃ D', D2 = D' + 1 := ⟨D2 - 1, by omega⟩
        obtain ⟨s, R⟩ := Mats.list (fun c hc => ih c (hr c hc)) D D2 b h h2 (by omega) (by omega) hb
        refine ⟨?_, R.agg⟩
        show (match kBb (snap (h ++ (kC0 (mat D) cs b).2 ++ h2) D2) (kC0 (mat D) cs b).1 with | some cs => some (AV.agg cs) | none => none) = _
        rw [s]
        rfl
      · obtain ⟨D, rfl⟩ : ∃ D', D = D' + 1 := ⟨D - 1, by omega⟩
        exact List.all_eq_true.2 fun c hc => (ih c (hr c hc)).noF D (by omega)
    case nw k rows =>
      refine ⟨fun D D2 b h h2 hD hD2 hb => ?_, fun D hD => ?_, fun _ D b hD => ?_⟩
      · obtain ⟨D, rfl⟩ : ∃ D', D = D' + 1 := ⟨D - 1, by omega⟩
        obtain ⟨D2, rfl⟩ : ∃ D', D2 = D' + 1 := ⟨D2 - 1, by omega⟩
        obtain ⟨s, R⟩ := Mats.rows (fun r hr' c hc => ih c (hr r hr' c hc)) D D2 (b + 1) (h ++ [⟨k, (kCt (mat D) rows (b + 1)).1⟩]) h2 (by omega) (by omega) (by simp [hb])
        have e1 : h ++ [⟨k, (kCt (mat D) rows (b + 1)).1⟩] ++ (kCt (mat D) rows (b + 1)).2 ++ h2 = h ++ (mat (D + 1) (.nw k rows) b).2 ++ h2 := by
          show _ = h ++ (⟨k, (kCt (mat D) rows (b + 1)).1⟩ :: (kCt (mat D) rows (b + 1)).2) ++ h2
          simp
        rw [e1] at s R
        have ho : (h ++ (mat (D + 1) (.nw k rows) b).2 ++ h2)[b]? = some ⟨k, (kCt (mat D) rows (b + 1)).1⟩ := by
          rw [← e1, ← hb]
          simp
        have hl : (kCt (mat D) rows (b + 1)).1.length = rows.length := matR_len _ _ _
        have ht : (kCt (mat D) rows (b + 1)).1.take rows.length = (kCt (mat D) rows (b + 1)).1 := List.take_of_length_le (by omega)
        refine ⟨?_, ?_⟩
        · show snap _ (D2 + 1) (.sl b rows.length 0 rows.length) = _
          show (match (h ++ (mat (D + 1) (.nw k rows) b).2 ++ h2)[b]? with | some ob => if ob.rows.length = rows.length ∧ 0 + rows.length ≤ rows.length then match kBb (kBb (snap (h ++ (mat (D + 1) (.nw k rows) b).2 ++ h2) D2)) ((ob.rows.drop 0).take rows.length) with | some rows => some (AV.fs ob.k rows) | none => none else none | none => none) = _
          rw [ho]
          simp only [hl, Nat.zero_add, Nat.le_refl, and_self, if_true, List.drop_zero, ht, s]
          rfl
        · have := RelsR.sl (n := rows.length) ho hl (Nat.le_refl _) (by rw [ht]; exact R)
          show Rels _ (D2 + 1) (.sl b rows.length 0 rows.length) _ b (b + (mat (D + 1) (.nw k rows) b).2.length)
          have e3 : (mat (D + 1) (.nw k rows) b).2.length = (kCt (mat D) rows (b + 1)).2.length + 1 := rfl
          rw [e3]
          have e4 : b + ((kCt (mat D) rows (b + 1)).2.length + 1) = b + 1 + (kCt (mat D) rows (b + 1)).2.length := by omega
          rw [e4]
          exact this
      · obtain ⟨D, rfl⟩ : ∃ D', D = D' + 1 := ⟨D - 1, by omega⟩
        exact List.all_eq_true.2 fun r hr' => List.all_eq_true.2 fun c hc => (ih c (hr r hr' c hc)).noF D (by omega)
      · obtain ⟨D, rfl⟩ : ∃ D', D = D' + 1 := ⟨D - 1, by omega⟩
        rfl
end Go.Eng
