/-
  The law FnAreas holds, for all arguments: it returns true, and its arguments read behind the call as before. No condition.
-/
import Derived.Test.YtdikndbpcceogaaFnAreasPartB
import Derived.Test.YtdikndbpcceogaaRows
namespace Go.Proofs.Ytdikndbpcceogaa
open Go Go.Eng Go.Eng.Cod
set_option maxRecDepth 100000
set_option linter.unusedVariables false
set_option linter.unusedSimpArgs false

theorem nearLoop {l : List Point} {p : Point} (n1 : 1 ≤ l.length) (n2 : l.length ≤ 60) (step : (Int × Int) → Option (Sum (Int × Int) Int))
    (next : ∀ (b k : Nat), b ≤ k → k + 1 < l.length → step ((b : Int), ((k + 1 : Nat) : Int)) = bif decide (d2 p (pt l (k + 1)) < d2 p (pt l b)) then some (.inl (((k + 1 : Nat) : Int), wr (((k + 1 : Nat) : Int) + 1))) else some (.inl ((b : Int), wr (((k + 1 : Nat) : Int) + 1))))
    (fin : ∀ (w : Int), step (w, ((l.length : Nat) : Int)) = some (.inr w)) : loopT step (0, 1) = some ((nearN l p (l.length - 1) : Nat) : Int) := by
  have r := loopT_at (step := step) (l.length - 1) (fun k => (((nearN l p k : Nat) : Int), ((k + 1 : Nat) : Int))) ((nearN l p (l.length - 1) : Nat) : Int)
    (fun k hk => by
      have ws : wr (((k + 1 : Nat) : Int) + 1) = ((k + 1 + 1 : Nat) : Int) := by rw [wr_id (by omega) (by omega)]; omega
      rw [next _ k (nearN_le l p k) (by omega), ws]
      have e : nearN l p (k + 1) = bif decide (d2 p (pt l (k + 1)) < d2 p (pt l (nearN l p k))) then k + 1 else nearN l p k := rfl
      rw [e]
      cases decide (d2 p (pt l (k + 1)) < d2 p (pt l (nearN l p k))) <;> rfl)
    (by
      have e : l.length - 1 + 1 = l.length := by omega
      rw [e]
      exact fin _)
    0 (Nat.zero_le _)
  exact r

def nearR (l : List Point) (p : Point) : Int × Int := bif vS l && vP p then (((nearN l p (l.length - 1) : Nat) : Int), 0) else (0, 1)

theorem nearest_ok (s : Stroke) (hs : StB s) (p : Point) : t_impl_NearestPoint s p = some (nearR (s.points.getD []) p) ∧ t_spec_NearestPoint s p = some (nearR (s.points.getD []) p) := by
  unfold t_impl_NearestPoint t_spec_NearestPoint nearR
  rw [validStroke_vS s hs.le, l02Stroke_vS s hs.le, validPoint_vP, l02Point_vP]
  cases hv : vS (s.points.getD []) with
  | false => exact ⟨rfl, rfl⟩
  | true =>
    cases hp : vP p with
    | false => exact ⟨rfl, rfl⟩
    | true =>
      have h := vS_iff.1 hv
      have pv := vP_iff.1 hp
      have n1 := h.n1
      have n2 := h.n2
      have l1 := nearLoop (p := p) n1 n2 (s0_impl_NearestPoint s p) (fun b k hb hk => by
        have c : ((k + 1 : Nat) : Int) < (((s.points.getD []).length : Nat) : Int) := by omega
        unfold s0_impl_NearestPoint
        simp only [c, decide_true, cond_true, get_pt hk, get_pt (l := s.points.getD []) (i := b) (by omega), obind_sm, squared_ok pv (pt_v h hk), squared_ok pv (pt_v h (i := b) (by omega))]) (fun w => by
        unfold s0_impl_NearestPoint
        simp only [Int.lt_irrefl, decide_false, cond_false])
      have l2 := nearLoop (p := p) n1 n2 (s0_spec_NearestPoint s p) (fun b k hb hk => by
        have c : ((k + 1 : Nat) : Int) < (((s.points.getD []).length : Nat) : Int) := by omega
        unfold s0_spec_NearestPoint
        simp only [c, decide_true, cond_true, get_pt hk, get_pt (l := s.points.getD []) (i := b) (by omega), obind_sm, l05Far_ok (pt_v h hk) pv, l05Far_ok (pt_v h (i := b) (by omega)) pv, d2_comm p]) (fun w => by
        unfold s0_spec_NearestPoint
        simp only [Int.lt_irrefl, decide_false, cond_false])
      have first : loopT (s0_impl_NearestPoint s p) (0, 0) = loopT (s0_impl_NearestPoint s p) (0, 1) := by
        apply loopT_next
        have c : (0 : Int) < (((s.points.getD []).length : Nat) : Int) := by omega
        have w : wr ((0 : Int) + 1) = 1 := by decide
        unfold s0_impl_NearestPoint
        simp only [c, decide_true, cond_true, (firstOf_ok h).2, obind_sm, squared_ok pv (pt_v h (i := 0) (by omega)), Int.lt_irrefl, decide_false, cond_false, w]
      simp only [obind_sm, Bool.not_true, cond_false, cond_true, Bool.and_self, first, l1, l2]
      constructor <;> first | rfl | trivial

theorem true_FnAreas (code : Sl UInt8) : t_laws_FnAreas code = some true := by
  unfold t_laws_FnAreas t_laws_f6big
  by_cases c0 : 4096 < (((code.getD []).length : Nat) : Int)
  · simp only [c0, decide_true, obind_sm, cond_true]
  have hs : SK ⟨code, 0, 0⟩ 0 := ⟨by simp, by simp⟩
  obtain ⟨s, s1, e1, k1, ss⟩ := dr_l05 hs (by omega)
  obtain ⟨p, s2, e2, k2⟩ := dr_point k1 (by omega)
  have D1 : t_spec_DrawReverseStroke code = some s := by
    unfold t_spec_DrawReverseStroke
    simp only [e1, obind_sm]
  have D2 : t_spec_DrawNearestPoint code = some (s, p) := by
    unfold t_spec_DrawNearestPoint
    simp only [e1, e2, obind_sm]
  obtain ⟨r, n, E1, f1, g1⟩ := implRev_ok s ss
  obtain ⟨m, n', E2, f2, g2⟩ := specRev_ok s ss
  have A1 := (area_ok s ss).1
  have A2 := (area_ok s ss).2
  have N1 := (nearest_ok s ss p).1
  have N2 := (nearest_ok s ss p).2
  cases hv : vS (s.points.getD []) with
  | false =>
    obtain ⟨rfl, rfl⟩ := f1 hv
    obtain ⟨rfl, rfl⟩ := f2 hv
    have F := f6stroke_ok (a := ⟨none⟩) (b := ⟨none⟩) rfl (by simp)
    have z : ¬ (1 : Int) = 0 := by omega
    simp only [c0, decide_false, obind_sm, cond_false, D1, E1, E2, A1, A2, D2, N1, N2, F, decide_true, Bool.not_true, z, Bool.not_false, cond_true]
  | true =>
    obtain ⟨rfl, hr⟩ := g1 hv
    obtain ⟨rfl, hm⟩ := g2 hv
    have h := vS_iff.1 hv
    have n1 := h.n1
    have n2 := h.n2
    have rl : (r.points.getD []).length = (s.points.getD []).length := by rw [hr, rvP_len]
    have F := f6stroke_ok (a := r) (b := m) (by rw [hr, hm]) (by omega)
    have hrv := rvP_v h
    have rb : StB r := ⟨by omega, fun q hq => by rw [hr] at hq; exact (hrv.pts q hq).b⟩
    have vr : vS (r.points.getD []) = true := by rw [hr]; exact vS_iff.2 hrv
    obtain ⟨b, n'', E3, _, g3⟩ := implRev_ok r rb
    obtain ⟨rfl, hb⟩ := g3 vr
    have hb2 : b.points.getD [] = s.points.getD [] := by rw [hb, hr, rvP_sumT h, rvP_rvP]
    have F2 := f6stroke_ok (a := b) (b := s) hb2 (by rw [hb2]; omega)
    have A3 := (area_ok r rb).1
    have L1 := (strokeL_ok s ss).1
    have L2 := (strokeL_ok r rb).1
    have a1 : areaR (s.points.getD []) = (area (s.points.getD []), 0) := by unfold areaR; rw [hv]; rfl
    have a2 : areaR (r.points.getD []) = (-area (s.points.getD []), 0) := by unfold areaR; rw [vr, hr, area_rev n1]; rfl
    have l1 : strokeL (s.points.getD []) = (slen (s.points.getD []), 0) := by unfold strokeL; rw [hv]; rfl
    have l2 : strokeL (r.points.getD []) = (slen (s.points.getD []), 0) := by unfold strokeL; rw [vr, hr, slen_rev]; rfl
    have ab := crS_le h (k := (s.points.getD []).length) (Nat.le_refl _)
    have w : wr (0 - area (s.points.getD [])) = -area (s.points.getD []) := by rw [wr_id (by unfold area; omega) (by unfold area; omega)]; omega
    rw [a1] at A1 A2
    rw [a2] at A3
    rw [l1] at L1
    rw [l2] at L2
    simp only [c0, decide_false, obind_sm, cond_false, D1, E1, E2, A1, A2, D2, N1, N2, F, decide_true, Bool.not_true, A3, L1, L2, E3, w, cond_true, F2]

theorem ok_laws_FnAreas : PureOK Try.prog n_laws_FnAreas (G1 (fun a : Sl UInt8 => Wt.big a) fun _ => bv true) := lawC1 tt_laws_FnAreas fun a _ => true_FnAreas a

theorem law_FnAreas (a : Sl UInt8) (ha : Row.fine a) : G1 (fun a : Sl UInt8 => Wt.big a) (fun _ => bv true) [enc a] = some (bv true) := G1_enc _ _ a (by simp [Wt.fb a ha])

theorem isC_5 {cs : List AV} (h : IsC Try.prog 5 cs) : ∃ x : UInt8, cs = Row.cells x ∧ Row.fine x := by
  obtain ⟨n, rfl, hn⟩ := IsC.intE Try.underlying5 h
  exact byte_of hn
theorem isC_22 {cs : List AV} (h : IsC Try.prog 22 cs) : ∃ x : (Sl UInt8), cs = Row.cells x ∧ Row.fine x := by
  rcases IsC.sliceE Try.underlying22 h with rfl | ⟨rows, rfl, h1, h2⟩
  · exact ⟨none, rfl, Sl.fineNil⟩
  · exact Sl.isC (by kernel_rfl) h1 fun row hr => isC_5 (h2 row hr)
theorem own : ownKnob Try.prog.godebug = none := by kernel_rfl
theorem laidOut : laidOutB Try.prog = true := by kernel_rfl

set_option maxRecDepth 100000 in
theorem holds : Rows.FnAreasSaid :=
  OpenClaim.holds_of_wide 3 Try.f3 rfl rfl rfl rfl rfl rfl rfl ⟨rfl, rfl, rfl, rfl, rfl⟩ rfl rfl rfl rfl rfl (by kernel_rfl) Try.func3 (by kernel_rfl)
    (of_decide_eq_true (by kernel_rfl)) (by unfold Func.isWrapper; rw [if_neg (by decide +kernel)]; exact ⟨rfl, rfl⟩)
    (fun os started H enc _ => law_lifted (C := Try.checked) (s := Rows.fnAreasSpec) own started (by kernel_rfl) Try.func3
      (ChangeSpec.witness6 (enc := enc) (C := Try.checked) false ⟨#[], #[.slice none 0 0], []⟩ 8 (by kernel_rfl) (by kernel_rfl) (by kernel_rfl) (by kernel_rfl))
      laidOut rfl (tb := 4) rfl Try.underlying4 (ts := [22, 5]) (by kernel_rfl)
      (fun ds h => by match ds, h with | [d0], _ => rfl)
      hb_laws_FnAreas ok_laws_FnAreas (by
    intro l h
    obtain ⟨a0, l0, rfl, g0, k0⟩ := h
    cases k0
    obtain ⟨b0, e0, w0⟩ := isC_22 (isV_one (by kernel_rfl) g0)
    obtain rfl := one_enc e0
    exact law_FnAreas b0 w0))
#print axioms holds
end Go.Proofs.Ytdikndbpcceogaa
