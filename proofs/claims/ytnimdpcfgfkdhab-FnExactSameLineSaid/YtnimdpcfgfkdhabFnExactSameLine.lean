/-
  The law FnExactSameLine holds, for all arguments: it returns true, and its arguments read behind the call as before. No condition.
-/
import Derived.Test.YtnimdpcfgfkdhabFnExactSameLineGen
import Derived.Test.YtnimdpcfgfkdhabRows
namespace Go.Proofs.Ytnimdpcfgfkdhab
open Go Go.Eng Go.Eng.Cod

theorem lp_laws_toInt64S (env : Nat → Contract) (q : Sl Int) (hq : fit q = true) : obind (loopP hm0_laws_toInt64S xm0_laws_toInt64S (lb0_laws_toInt64S env) [Sl.enc q, und, nilS, .sl 0 (q.getD []).length 0 (q.getD []).length, iv 0, Sl.enc q, iv ((q.getD []).length : Nat), .sl 0 (q.getD []).length 0 (q.getD []).length, .top, .top, .top, .top, .top, .top, .top, .top, .top, .top, .top, .top, .top, und] [⟨1, List.replicate (q.getD []).length [(iv 0)]⟩]) (fun r => lk0_laws_toInt64S env r.1 r.2.1 r.2.2) = some (.sl 0 (q.getD []).length 0 (q.getD []).length, mt (nws q) 0) := by
  have T := lookT q (w := 1) rfl
  have L := loop_fill (A := Int) (by decide) (q.getD []) (hm := hm0_laws_toInt64S) (xm := xm0_laws_toInt64S) (body := lb0_laws_toInt64S env) (K := fun r => lk0_laws_toInt64S env r.1 r.2.1 r.2.2) [(iv 0)] (fun i => [Sl.enc q, und, nilS, .sl 0 (q.getD []).length 0 (q.getD []).length, iv (i : Int), Sl.enc q, iv ((q.getD []).length : Nat), .sl 0 (q.getD []).length 0 (q.getD []).length, .top, .top, .top, .top, .top, .top, .top, .top, .top, .top, .top, .top, .top, und]) (by
    intro pre a suf rows objs hl hr
    have S := Stp.mk' hl (fit_max hq)
    have hn : pre.length + 1 + suf.length = (q.getD []).length := by rw [hl]; simp; omega
    have hfit : fit a = true := fit_mem hq (by rw [hl]; simp)
    have fa := fun objs => fill_addr (w := 1) (rows := rows) (objs := objs) (z := [(iv 0)]) hr hn
    have fs := fun objs v => fill_store (w := 1) (rows := rows) (objs := objs) (z := [(iv 0)]) (v := v) hr hn rfl
    rw [loopP.eq_1]
    simp [e_lb0_laws_toInt64S, T.len, T.idx, T.load, S.idx, S.lt, S.elt, cut, S.wr, fa]
    rw [fs _ _ rfl (by simp)]
    simp [restr])
  simp at L
  rw [L, loopP.eq_1]
  simp [e_lb0_laws_toInt64S, T.len, restr, e_lk0x0_laws_toInt64S]
  rfl
theorem ok_laws_toInt64S : PureOK Try.prog n_laws_toInt64S (G1 (fun q : Sl Int => fit q) nws) :=
  pureG1 E0 mixed hb_laws_toInt64S fun q hq => by
  have T := lookT q (w := 1) rfl
  have M := make_ok (bytes := 8) [(iv 0)] [] (fit_len hq) (by decide)
  simp at M
  have L := fun env => lp_laws_toInt64S env q hq
  simp [e_laws_toInt64S, T.len, M, L]
  exact release_nws (by decide) q

theorem lp_laws_eqInt64S (env : Nat → Contract) (q p : Sl Int) (hq : fit q = true) (hl : (q.getD []).length = (p.getD []).length) : obind (loopP hm0_laws_eqInt64S xm0_laws_eqInt64S (lb0_laws_eqInt64S env) [Sl.enc q, Sl.enc p, und, und, .top, iv 0, Sl.enc q, iv ((q.getD []).length : Nat), Sl.enc p, iv ((p.getD []).length : Nat), bv false, .top, .top, .top, .top, .top, .top, .top, .top, .top, .top, .top, .top, .top, .top, .top] []) (fun r => lk0_laws_eqInt64S env r.1 r.2.1 r.2.2) = some (bif decide (q.getD [] = p.getD []) then (bv true, []) else (bv false, [])) := by
  have T := lookT q (w := 1) rfl
  have U := lookT p (w := 1) rfl
  have L := loop_eq (A := Int) hl (fit_max hq) (hmk := hm0_laws_eqInt64S) (xm := xm0_laws_eqInt64S) (body := lb0_laws_eqInt64S env) (K := fun r => lk0_laws_eqInt64S env r.1 r.2.1 r.2.2) [] (fun i => [Sl.enc q, Sl.enc p, und, und, .top, iv (i : Int), Sl.enc q, iv ((q.getD []).length : Nat), Sl.enc p, iv ((p.getD []).length : Nat), bv false, .top, .top, .top, .top, .top, .top, .top, .top, .top, .top, .top, .top, .top, .top, .top]) (bv true, []) (bv false, [])
    (by
      intro pre x y S h1 h2 h3
      have h4 : (p.getD [])[pre.length] = y := by simpa [h3] using h2
      rw [loopP.eq_1]
      simp [e_lb0_laws_eqInt64S, T.len, T.idx, T.load, U.idx, U.load, S.idx, S.lt, S.elt, h1, h3, h4, cut, S.wr]
      cases decide (x = y) <;> simp [restr, e_lk0r_laws_eqInt64S])
    (by
      rw [loopP.eq_1]
      simp [e_lb0_laws_eqInt64S, T.len, restr, e_lk0x0_laws_eqInt64S])
  simpa using L
theorem ok_laws_eqInt64S : PureOK Try.prog n_laws_eqInt64S (G2 (fun q _ : Sl Int => fit q) fun q p => bv (decide (q.getD [] = p.getD []))) :=
  pureG2 E0 mixed hb_laws_eqInt64S fun q p hq => by
  have T := lookT q (w := 1) rfl
  have U := lookT p (w := 1) rfl
  by_cases hl : (q.getD []).length = (p.getD []).length
  · have L := fun env => lp_laws_eqInt64S env q p hq hl
    simp [e_laws_eqInt64S, T.len, U.len, hl] at L ⊢
    simp [L]
  · have h2 : ¬ q.getD [] = p.getD [] := fun e => hl (by rw [e])
    have h3 : ¬ ((q.getD []).length : Int) = (p.getD []).length := by omega
    simp [e_laws_eqInt64S, T.len, U.len, h3, h2]

theorem lp_slices_Equal_int64_int64 (env : Nat → Contract) (q p : Sl Int) (hq : fit q = true) (hl : (q.getD []).length = (p.getD []).length) : obind (loopP hm0_slices_Equal_int64_int64 xm0_slices_Equal_int64_int64 (lb0_slices_Equal_int64_int64 env) [Sl.enc q, Sl.enc p, und, und, .top, .top, Sl.enc q, iv ((q.getD []).length : Nat), Sl.enc p, iv ((p.getD []).length : Nat), bv false, Sl.enc q, iv ((q.getD []).length : Nat), iv 0, .top, .top, .top, .top, .top, .top, .top, .top, .top, .top, .top, .top] []) (fun r => lk0_slices_Equal_int64_int64 env r.1 r.2.1 r.2.2) = some (bif decide (q.getD [] = p.getD []) then (bv true, []) else (bv false, [])) := by
  have T := lookT q (w := 1) rfl
  have U := lookT p (w := 1) rfl
  have L := loop_eq (A := Int) hl (fit_max hq) (hmk := hm0_slices_Equal_int64_int64) (xm := xm0_slices_Equal_int64_int64) (body := lb0_slices_Equal_int64_int64 env) (K := fun r => lk0_slices_Equal_int64_int64 env r.1 r.2.1 r.2.2) [] (fun i => [Sl.enc q, Sl.enc p, und, und, .top, .top, Sl.enc q, iv ((q.getD []).length : Nat), Sl.enc p, iv ((p.getD []).length : Nat), bv false, Sl.enc q, iv ((q.getD []).length : Nat), iv (i : Int), .top, .top, .top, .top, .top, .top, .top, .top, .top, .top, .top, .top]) (bv true, []) (bv false, [])
    (by
      intro pre x y S h1 h2 h3
      have h4 : (p.getD [])[pre.length] = y := by simpa [h3] using h2
      rw [loopP.eq_1]
      simp [e_lb0_slices_Equal_int64_int64, T.len, T.idx, T.load, U.idx, U.load, S.idx, S.lt, S.elt, h1, h3, h4, cut, S.wr]
      cases decide (x = y) <;> simp [restr, e_lk0r_slices_Equal_int64_int64])
    (by
      rw [loopP.eq_1]
      simp [e_lb0_slices_Equal_int64_int64, T.len, restr, e_lk0x0_slices_Equal_int64_int64])
  simpa using L
theorem ok_slices_Equal_int64_int64 : PureOK Try.prog n_slices_Equal_int64_int64 (G2 (fun q _ : Sl Int => fit q) fun q p => bv (decide (q.getD [] = p.getD []))) :=
  pureG2 E0 mixed hb_slices_Equal_int64_int64 fun q p hq => by
  have T := lookT q (w := 1) rfl
  have U := lookT p (w := 1) rfl
  by_cases hl : (q.getD []).length = (p.getD []).length
  · have L := fun env => lp_slices_Equal_int64_int64 env q p hq hl
    simp [e_slices_Equal_int64_int64, T.len, U.len, hl] at L ⊢
    simp [L]
  · have h2 : ¬ q.getD [] = p.getD [] := fun e => hl (by rw [e])
    have h3 : ¬ ((q.getD []).length : Int) = (p.getD []).length := by omega
    simp [e_slices_Equal_int64_int64, T.len, U.len, h3, h2]

theorem lp_spec_l00Same (env : Nat → Contract) (q p : Sl Int) (hq : fit q = true) (hl : (q.getD []).length = (p.getD []).length) : obind (loopP hm0_spec_l00Same xm0_spec_l00Same (lb0_spec_l00Same env) [Sl.enc q, Sl.enc p, und, und, .top, iv 0, Sl.enc q, iv ((q.getD []).length : Nat), Sl.enc p, iv ((p.getD []).length : Nat), bv false, .top, .top, .top, .top, .top, .top, .top, .top, .top, .top, .top, .top, .top, .top, .top] []) (fun r => lk0_spec_l00Same env r.1 r.2.1 r.2.2) = some (bif decide (q.getD [] = p.getD []) then (bv true, []) else (bv false, [])) := by
  have T := lookT q (w := 1) rfl
  have U := lookT p (w := 1) rfl
  have L := loop_eq (A := Int) hl (fit_max hq) (hmk := hm0_spec_l00Same) (xm := xm0_spec_l00Same) (body := lb0_spec_l00Same env) (K := fun r => lk0_spec_l00Same env r.1 r.2.1 r.2.2) [] (fun i => [Sl.enc q, Sl.enc p, und, und, .top, iv (i : Int), Sl.enc q, iv ((q.getD []).length : Nat), Sl.enc p, iv ((p.getD []).length : Nat), bv false, .top, .top, .top, .top, .top, .top, .top, .top, .top, .top, .top, .top, .top, .top, .top]) (bv true, []) (bv false, [])
    (by
      intro pre x y S h1 h2 h3
      have h4 : (p.getD [])[pre.length] = y := by simpa [h3] using h2
      rw [loopP.eq_1]
      simp [e_lb0_spec_l00Same, T.len, T.idx, T.load, U.idx, U.load, S.idx, S.lt, S.elt, h1, h3, h4, cut, S.wr]
      cases decide (x = y) <;> simp [restr, e_lk0r_spec_l00Same])
    (by
      rw [loopP.eq_1]
      simp [e_lb0_spec_l00Same, T.len, restr, e_lk0x0_spec_l00Same])
  simpa using L
theorem ok_spec_l00Same : PureOK Try.prog n_spec_l00Same (G2 (fun q _ : Sl Int => fit q) fun q p => bv (decide (q.getD [] = p.getD []))) :=
  pureG2 E0 mixed hb_spec_l00Same fun q p hq => by
  have T := lookT q (w := 1) rfl
  have U := lookT p (w := 1) rfl
  by_cases hl : (q.getD []).length = (p.getD []).length
  · have L := fun env => lp_spec_l00Same env q p hq hl
    simp [e_spec_l00Same, T.len, U.len, hl] at L ⊢
    simp [L]
  · have h2 : ¬ q.getD [] = p.getD [] := fun e => hl (by rw [e])
    have h3 : ¬ ((q.getD []).length : Int) = (p.getD []).length := by omega
    simp [e_spec_l00Same, T.len, U.len, h3, h2]

theorem nil_ok : EnvOK Try.prog (envL []) := E0

theorem ok_laws_szInt64S : PureOK Try.prog n_laws_szInt64S (G2 (fun (q : Sl Int) left => szOK q left) fun q left => iv (szR left (Wt.wt q))) :=
  pureG2 nil_ok mixed hb_laws_szInt64S fun q left h => by
  have T := lookT q (w := 1) rfl
  obtain ⟨h1, h2, h3⟩ := (szOK_iff q left).1 h
  have h4 := sz_len h2 h3 (big_len h1)
  rw [wt_zero (fun _ => rfl) q]
  by_cases hl : left < ((q.getD []).length : Nat)
  · have : left - ((q.getD []).length : Nat) < 0 := by omega
    simp [e_laws_szInt64S, T.len, h4, this, szR_lt hl]
  · have : ¬ left - ((q.getD []).length : Nat) < 0 := by omega
    simp [e_laws_szInt64S, T.len, h4, this, szR_ge hl]

theorem ok_laws_szLine : PureOK Try.prog n_laws_szLine (G2 (fun (q : Line) left => szOK q left) fun q left => iv (szR left (Wt.wt q))) :=
  pureG2 (E1 ok_laws_szInt64S) mixed hb_laws_szLine fun q left h => by
  have h' : szOK q.items left = true := h
  obtain ⟨h1, h2, h3⟩ := (szOK_iff q left).1 h
  rw [wt_Line]
  by_cases hl : left < (Wt.wt q.items : Nat)
  · simp [e_laws_szLine, envL, aBox, aLoad, cut, h', szR_lt hl]
  · have : ¬ left - (Wt.wt q.items : Nat) < 0 := by omega
    simp [e_laws_szLine, envL, aBox, aLoad, cut, h', szR_ge hl, this]

theorem ok_laws_toLine : PureOK Try.prog n_laws_toLine (G1 (fun b : Line => fit b) nag) :=
  pureG1 (E1 ok_laws_toInt64S) mixed hb_laws_toLine fun b h => by
  have h' : fit b.items = true := h
  simp [e_laws_toLine, envL, aBox, aLoad, cut, aStore, splice, h', hand_nws, retL, resL, pack]
  refine Rels.release (RelsL.agg (.cons (.sc 3 (isSc_iv _)) (.cons (.sc 3 (isSc_iv _)) (.cons (At.rels (tr_nws b.items (by decide)) ?_ (by decide)) (.nil _)))))
  exact At.cons _ (At.cons _ (At.cons _ (At.all _)))

theorem ok_laws_eqLine : PureOK Try.prog n_laws_eqLine (G2 (fun b _ : Line => fit b) fun b c => bv (decide (b.top = c.top) && (decide (b.bottom = c.bottom) && decide (b.items.getD [] = c.items.getD [])))) :=
  pureG2 (E1 ok_laws_eqInt64S) mixed hb_laws_eqLine fun b c h => by
  have h' : fit b.items = true := h
  simp [e_laws_eqLine, envL, aBox, aLoad, cut, h']

def sameLine (a b : Line) : Bool := decide (a.top = b.top) && (decide (a.bottom = b.bottom) && decide (a.items.getD [] = b.items.getD []))
theorem ok_impl_SameLine : PureOK Try.prog n_impl_SameLine (G2 (fun b _ : Line => fit b) fun a b => bv (sameLine a b)) :=
  pureG2 (E1 ok_slices_Equal_int64_int64) mixed hb_impl_SameLine fun b c h => by
  have h' : fit b.items = true := h
  simp [e_impl_SameLine, envL, aBox, aLoad, cut, sameLine]
  by_cases h1 : b.top = c.top <;> by_cases h2 : b.bottom = c.bottom <;> by_cases h3 : b.items.getD [] = c.items.getD [] <;> simp [h1, h2, h3, h']

theorem ok_spec_SameLine : PureOK Try.prog n_spec_SameLine (G2 (fun b _ : Line => fit b) fun a b => bv (sameLine a b)) :=
  pureG2 (E1 ok_spec_l00Same) mixed hb_spec_SameLine fun b c h => by
  have h' : fit b.items = true := h
  simp [e_spec_SameLine, envL, aBox, aLoad, cut, sameLine]
  by_cases h1 : b.top = c.top <;> by_cases h2 : b.bottom = c.bottom <;> by_cases h3 : b.items.getD [] = c.items.getD [] <;> simp [h1, h2, h3, h']

theorem ok_laws_FnExactSameLine : PureOK Try.prog n_laws_FnExactSameLine (G2 (fun a b : Line => Wt.big a && Wt.big b) fun _ _ => bv true) :=
  pureG2 (E5 ok_laws_szLine ok_laws_toLine ok_spec_SameLine ok_impl_SameLine ok_laws_eqLine) mixed hb_laws_FnExactSameLine fun a b h => by
  simp at h
  have s1 : szOK a 1048576 = true := by simp [szOK, h]
  by_cases h1 : (1048576 : Int) < (Wt.wt a : Nat)
  · simp [e_laws_FnExactSameLine, envL, aBox, aLoad, cut, s1, szR_lt h1]
  · have r1 : ¬ (1048576 : Int) - (Wt.wt a : Nat) < 0 := by omega
    have s2 : szOK b (1048576 - (Wt.wt a : Nat)) = true := by simp [szOK, h]; omega
    have f1 : fit a = true := fit_wt h1 (by decide)
    by_cases h2 : (1048576 - (Wt.wt a : Nat) : Int) < (Wt.wt b : Nat)
    · simp [e_laws_FnExactSameLine, envL, aBox, aLoad, cut, s1, szR_ge h1, r1, s2, szR_lt h2]
    · have r2 : ¬ (1048576 : Int) - (Wt.wt a : Nat) - (Wt.wt b : Nat) < 0 := by omega
      have f2 : fit b = true := fit_wt h2 (by omega)
      simp [e_laws_FnExactSameLine, envL, aBox, aLoad, cut, s1, szR_ge h1, r1, s2, szR_ge h2, r2, f1, f2, aStore, splice, hand_nag, snapD_nag, fit_norm f1, fit_norm f2]
theorem law_FnExactSameLine (a b : Line) (ha : Row.fine a) (hb : Row.fine b) : G2 (fun a b : Line => Wt.big a && Wt.big b) (fun _ _ => bv true) [enc a, enc b] = some (bv true) := G2_enc _ _ a b (by simp [Wt.fb a ha, Wt.fb b hb])

theorem isC_2 {cs : List AV} (h : IsC Try.prog 2 cs) : ∃ x : Int, cs = Row.cells x ∧ Row.fine x := by
  obtain ⟨n, rfl, hn⟩ := IsC.intE Try.underlying2 h
  exact ⟨n, rfl, fine_int hn⟩
theorem isC_22 {cs : List AV} (h : IsC Try.prog 22 cs) : ∃ x : (Sl Int), cs = Row.cells x ∧ Row.fine x := by
  rcases IsC.sliceE Try.underlying22 h with rfl | ⟨rows, rfl, h1, h2⟩
  · exact ⟨none, rfl, Sl.fineNil⟩
  · exact Sl.isC (by kernel_rfl) h1 fun row hr => isC_2 (h2 row hr)
theorem isC_24 {cs : List AV} (h : IsC Try.prog 24 cs) : ∃ x : Line, cs = Row.cells x ∧ Row.fine x := by
  replace h := IsC.structE Try.underlying24 h
  obtain ⟨c0, r0, rfl, q0, k0⟩ := IsFs.consE h
  obtain ⟨c1, r1, rfl, q1, k1⟩ := IsFs.consE k0
  obtain ⟨c2, r2, rfl, q2, k2⟩ := IsFs.consE k1
  cases IsFs.nilE k2
  obtain ⟨v0, rfl, w0⟩ := isC_2 q0
  obtain ⟨v1, rfl, w1⟩ := isC_2 q1
  obtain ⟨v2, rfl, w2⟩ := isC_22 q2
  exact ⟨⟨v0, v1, v2⟩, rfl, w0, w1, w2⟩
theorem own : ownKnob Try.prog.godebug = none := by kernel_rfl
theorem laidOut : laidOutB Try.prog = true := by kernel_rfl

set_option maxRecDepth 100000 in
theorem holds : Rows.FnExactSameLineSaid :=
  OpenClaim.holds_of_wide 3 Try.f3 rfl rfl rfl rfl rfl rfl rfl ⟨rfl, rfl, rfl, rfl, rfl⟩ rfl rfl rfl rfl rfl (by kernel_rfl) Try.func3 (by kernel_rfl)
    (of_decide_eq_true (by kernel_rfl)) (by unfold Func.isWrapper; rw [if_neg (by decide +kernel)]; exact ⟨rfl, rfl⟩)
    (fun os started H enc _ => law_lifted (C := Try.checked) (s := Rows.fnExactSameLineSpec) own started (by kernel_rfl) Try.func3
      (ChangeSpec.witness6 (enc := enc) (C := Try.checked) false ⟨#[], #[.agg #[.int .i64 0, .int .i64 0, .slice none 0 0], .agg #[.int .i64 0, .int .i64 0, .slice none 0 0]], []⟩ 8 (by kernel_rfl) (by kernel_rfl) (by kernel_rfl) (by kernel_rfl))
      laidOut rfl (tb := 4) rfl Try.underlying4 (ts := [24, 2, 22]) (by kernel_rfl)
      (fun ds h => by match ds, h with | [d0, d1], _ => rfl)
      hb_laws_FnExactSameLine ok_laws_FnExactSameLine (by
    intro l h
    obtain ⟨a0, l0, rfl, g0, k0⟩ := h
    obtain ⟨a1, l1, rfl, g1, k1⟩ := k0
    cases k1
    obtain ⟨c0, rfl, m0⟩ := IsV.structE Try.underlying24 g0
    obtain ⟨b0, rfl, w0⟩ := isC_24 m0
    obtain ⟨c1, rfl, m1⟩ := IsV.structE Try.underlying24 g1
    obtain ⟨b1, rfl, w1⟩ := isC_24 m1
    exact law_FnExactSameLine b0 b1 w0 w1))
#print axioms holds
end Go.Proofs.Ytnimdpcfgfkdhab
