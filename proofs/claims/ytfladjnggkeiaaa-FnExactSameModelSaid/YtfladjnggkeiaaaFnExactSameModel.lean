/-
  The law FnExactSameModel holds, for all arguments: it returns true, and its arguments read behind the call as before. No condition.
-/
import Derived.Test.YtfladjnggkeiaaaFnExactSameModelGen
import Derived.Test.YtfladjnggkeiaaaRows
namespace Go.Proofs.Ytfladjnggkeiaaa
open Go Go.Eng Go.Eng.Cod

theorem ok_laws_szBigram : PureOK Try.prog n_laws_szBigram (G2 (fun (q : Bigram) left => szOK q left) fun q left => iv (szR left (Wt.wt q))) :=
  pureG2 E0 mixed hb_laws_szBigram fun q left h => by
  obtain ⟨h1, h2, h3⟩ := (szOK_iff q left).1 h
  rw [big_Bigram] at h1
  simp only [Bool.and_eq_true] at h1
  have g1 : q.first.size ≤ maxLen := of_decide_eq_true h1.1
  have g2 : q.second.size ≤ maxLen := of_decide_eq_true h1.2
  have h4 := sz_len h2 h3 g1
  have h5 : Wt.wt q = q.first.size + q.second.size := rfl
  rw [h5]
  by_cases hl : left < (q.first.size : Nat)
  · have : left - (q.first.size : Nat) < 0 := by omega
    simp [e_laws_szBigram, aBox, aLoad, cut, h4, this, szR_lt' hl]
  · have r1 : ¬ left - (q.first.size : Nat) < 0 := by omega
    have h6 := sz_len (left := left - (q.first.size : Nat)) (by omega) (by omega) g2
    rw [szR_add hl]
    by_cases hm : left - (q.first.size : Nat) < (q.second.size : Nat)
    · have : left - (q.first.size : Nat) - (q.second.size : Nat) < 0 := by omega
      simp [e_laws_szBigram, aBox, aLoad, cut, h4, r1, h6, this, szR_lt hm]
    · have : ¬ left - (q.first.size : Nat) - (q.second.size : Nat) < 0 := by omega
      simp [e_laws_szBigram, aBox, aLoad, cut, h4, r1, h6, this, szR_ge hm]

theorem ok_laws_toBigram : PureOK Try.prog n_laws_toBigram (T1 fun b : Bigram => b) := pureT1 E0 mixed hb_laws_toBigram fun b => by
  simp [e_laws_toBigram, envL, aBox, aLoad, cut, aStore, splice, retL, resL, pack]

theorem ok_laws_eqBigram : PureOK Try.prog n_laws_eqBigram (T2 fun a b : Bigram => decide (a = b)) := pureT2 E0 mixed hb_laws_eqBigram fun a b => by
  simp [e_laws_eqBigram, envL, aBox, aLoad, cut]
  obtain ⟨a0, a1, a2⟩ := a
  obtain ⟨b0, b1, b2⟩ := b
  simp

theorem lp_laws_szBigramS (env : Nat → Contract) (he : env n_laws_szBigram = .pure (G2 (fun (q : Bigram) left => szOK q left) fun q left => iv (szR left (Wt.wt q)))) (q : Sl Bigram) (hq : Wt.big q = true) (left s : Int) (hs : 0 ≤ s ∧ s ≤ 1048576) :
    obind (loopP hm0_laws_szBigramS xm0_laws_szBigramS (lb0_laws_szBigramS env) [Sl.enc q, iv s, und, und, .top, iv 0, iv left, Sl.enc q, iv ((q.getD []).length : Nat), iv (left - ((q.getD []).length : Nat)), iv (left - ((q.getD []).length : Nat)), bv false, .top, .top, .top, .top, .top, .top, .top, .top, .top, .top, .top, .top, .top, .top, und] []) (fun r => lk0_laws_szBigramS env r.1 r.2.1 r.2.2) = some (iv (szR s ((q.getD []).map Wt.wt).sum), []) := by
  have T := lookT q (w := 3) rfl
  exact loop_over (q.getD []) (big_len hq) (hmk := hm0_laws_szBigramS) (xm := xm0_laws_szBigramS) (body := lb0_laws_szBigramS env) (K := fun r => lk0_laws_szBigramS env r.1 r.2.1 r.2.2) (σ := Int) (fun s i => [Sl.enc q, iv s, und, und, .top, iv (i : Int), iv left, Sl.enc q, iv ((q.getD []).length : Nat), iv (left - ((q.getD []).length : Nat)), iv (left - ((q.getD []).length : Nat)), bv false, .top, .top, .top, .top, .top, .top, .top, .top, .top, .top, .top, .top, .top, .top, und]) (fun _ => [])
    (fun s _ => 0 ≤ s ∧ s ≤ 1048576) (fun s suf => some (iv (szR s (suf.map Wt.wt).sum), []))
    (fun pre x suf s hl hi S => by
      have hb : Wt.big x = true := big_mem hq (by rw [hl]; simp)
      have ho : szOK x s = true := (szOK_iff x s).2 ⟨hb, hi.1, hi.2⟩
      by_cases h : s < (Wt.wt x : Nat)
      · left
        rw [loopP.eq_1]
        have h2 := szR_lt' (v := (suf.map Wt.wt).sum) h
        simp only [List.map_cons, List.sum_cons, h2]
        simp [e_lb0_laws_szBigramS, T.len, T.idx, T.load, S.idx, S.lt, S.elt, cut, S.wr, he, ho, szR_lt h, restr, e_lk0r_laws_szBigramS]
      · right
        refine ⟨s - (Wt.wt x : Nat), ⟨by omega, by omega⟩, ?_, ?_⟩
        · rw [loopP.eq_1]
          have h3 : ¬ s - (Wt.wt x : Nat) < 0 := by omega
          simp [e_lb0_laws_szBigramS, T.len, T.idx, T.load, S.idx, S.lt, S.elt, cut, S.wr, he, ho, szR_ge h, h3, restr]
        · simp only [List.map_cons, List.sum_cons, szR_add h])
    (fun s hi => by
      rw [loopP.eq_1]
      have h3 : ¬ s < 0 := by omega
      simp [e_lb0_laws_szBigramS, T.len, restr, e_lk0x0_laws_szBigramS, szR, h3]) s hs
theorem ok_laws_szBigramS : PureOK Try.prog n_laws_szBigramS (G2 (fun (q : Sl Bigram) left => szOK q left) fun q left => iv (szR left (Wt.wt q))) :=
  pureG2 (E1 ok_laws_szBigram) mixed hb_laws_szBigramS fun q left h => by
  have T := lookT q (w := 3) rfl
  obtain ⟨h1, h2, h3⟩ := (szOK_iff q left).1 h
  have h4 := sz_len h2 h3 (big_len h1)
  rw [wt_sl]
  by_cases hl : left < ((q.getD []).length : Nat)
  · have h5 : left - ((q.getD []).length : Nat) < 0 := by omega
    simp [e_laws_szBigramS, T.len, h4, h5, szR_lt' hl]
  · have h5 : ¬ left - ((q.getD []).length : Nat) < 0 := by omega
    have L := fun env he => lp_laws_szBigramS env he q h1 left (left - ((q.getD []).length : Nat)) ⟨by omega, by omega⟩
    simp [e_laws_szBigramS, T.len, h4, h5, L, envL, szR_add hl]

theorem lp_laws_toBigramS (env : Nat → Contract) (q : Sl Bigram) (hq : fit q = true) (he : env n_laws_toBigram = .pure (T1 fun b : Bigram => b)) : obind (loopP hm0_laws_toBigramS xm0_laws_toBigramS (lb0_laws_toBigramS env) [Sl.enc q, und, nilS, .sl 0 (q.getD []).length 0 (q.getD []).length, iv 0, Sl.enc q, iv ((q.getD []).length : Nat), .sl 0 (q.getD []).length 0 (q.getD []).length, .top, .top, .top, .top, .top, .top, .top, .top, .top, .top, .top, .top, .top, .top, und] [⟨3, List.replicate (q.getD []).length [(sv ⟨#[]⟩), (sv ⟨#[]⟩), (iv 0)]⟩]) (fun r => lk0_laws_toBigramS env r.1 r.2.1 r.2.2) = some (.sl 0 (q.getD []).length 0 (q.getD []).length, mt (nws q) 0) := by
  have T := lookT q (w := 3) rfl
  have L := loop_fill (A := Bigram) (by decide) (q.getD []) (hm := hm0_laws_toBigramS) (xm := xm0_laws_toBigramS) (body := lb0_laws_toBigramS env) (K := fun r => lk0_laws_toBigramS env r.1 r.2.1 r.2.2) [(sv ⟨#[]⟩), (sv ⟨#[]⟩), (iv 0)] (fun i => [Sl.enc q, und, nilS, .sl 0 (q.getD []).length 0 (q.getD []).length, iv (i : Int), Sl.enc q, iv ((q.getD []).length : Nat), .sl 0 (q.getD []).length 0 (q.getD []).length, .top, .top, .top, .top, .top, .top, .top, .top, .top, .top, .top, .top, .top, .top, und]) (by
    intro pre a suf rows objs hl hr
    have S := Stp.mk' hl (fit_max hq)
    have hn : pre.length + 1 + suf.length = (q.getD []).length := by rw [hl]; simp; omega
    have hfit : fit a = true := fit_mem hq (by rw [hl]; simp)
    have fa := fun objs => fill_addr (w := 3) (rows := rows) (objs := objs) (z := [(sv ⟨#[]⟩), (sv ⟨#[]⟩), (iv 0)]) hr hn
    have fs := fun objs v => fill_store (w := 3) (rows := rows) (objs := objs) (z := [(sv ⟨#[]⟩), (sv ⟨#[]⟩), (iv 0)]) (v := v) hr hn rfl
    rw [loopP.eq_1]
    simp [e_lb0_laws_toBigramS, T.len, T.idx, T.load, S.idx, S.lt, S.elt, cut, S.wr, fa, he]
    rw [fs _ _ rfl (by simp)]
    simp [restr])
  simp at L
  rw [L, loopP.eq_1]
  simp [e_lb0_laws_toBigramS, T.len, restr, e_lk0x0_laws_toBigramS]
  rfl
theorem ok_laws_toBigramS : PureOK Try.prog n_laws_toBigramS (G1 (fun q : Sl Bigram => fit q) nws) :=
  pureG1 (E1 ok_laws_toBigram) mixed hb_laws_toBigramS fun q hq => by
  have T := lookT q (w := 3) rfl
  have M := make_ok (bytes := 40) [(sv ⟨#[]⟩), (sv ⟨#[]⟩), (iv 0)] [] (fit_len hq) (by decide)
  simp at M
  have L := fun env he => lp_laws_toBigramS env q hq he
  simp [e_laws_toBigramS, T.len, M, L, envL]
  exact release_nws (by decide) q

theorem lp_laws_eqBigramS (env : Nat → Contract) (q p : Sl Bigram) (hq : fit q = true) (hl : (q.getD []).length = (p.getD []).length) (he : env n_laws_eqBigram = .pure (T2 fun a b : Bigram => decide (a = b))) : obind (loopP hm0_laws_eqBigramS xm0_laws_eqBigramS (lb0_laws_eqBigramS env) [Sl.enc q, Sl.enc p, und, und, .top, iv 0, Sl.enc q, iv ((q.getD []).length : Nat), Sl.enc p, iv ((p.getD []).length : Nat), bv false, .top, .top, .top, .top, .top, .top, .top, .top, .top, .top, .top, .top, .top, .top, .top, .top] []) (fun r => lk0_laws_eqBigramS env r.1 r.2.1 r.2.2) = some (bif decide (q.getD [] = p.getD []) then (bv true, []) else (bv false, [])) := by
  have T := lookT q (w := 3) rfl
  have U := lookT p (w := 3) rfl
  have L := loop_eq (A := Bigram) hl (fit_max hq) (hmk := hm0_laws_eqBigramS) (xm := xm0_laws_eqBigramS) (body := lb0_laws_eqBigramS env) (K := fun r => lk0_laws_eqBigramS env r.1 r.2.1 r.2.2) [] (fun i => [Sl.enc q, Sl.enc p, und, und, .top, iv (i : Int), Sl.enc q, iv ((q.getD []).length : Nat), Sl.enc p, iv ((p.getD []).length : Nat), bv false, .top, .top, .top, .top, .top, .top, .top, .top, .top, .top, .top, .top, .top, .top, .top, .top]) (bv true, []) (bv false, [])
    (by
      intro pre x y S h1 h2 h3
      have h4 : (p.getD [])[pre.length] = y := by simpa [h3] using h2
      rw [loopP.eq_1]
      simp [e_lb0_laws_eqBigramS, T.len, T.idx, T.load, U.idx, U.load, S.idx, S.lt, S.elt, h1, h3, h4, cut, S.wr, he]
      cases decide (x = y) <;> simp [restr, e_lk0r_laws_eqBigramS])
    (by
      rw [loopP.eq_1]
      simp [e_lb0_laws_eqBigramS, T.len, restr, e_lk0x0_laws_eqBigramS])
  simpa using L
theorem ok_laws_eqBigramS : PureOK Try.prog n_laws_eqBigramS (G2 (fun q _ : Sl Bigram => fit q) fun q p => bv (decide (q.getD [] = p.getD []))) :=
  pureG2 (E1 ok_laws_eqBigram) mixed hb_laws_eqBigramS fun q p hq => by
  have T := lookT q (w := 3) rfl
  have U := lookT p (w := 3) rfl
  by_cases hl : (q.getD []).length = (p.getD []).length
  · have L := fun env he => lp_laws_eqBigramS env q p hq hl he
    simp [e_laws_eqBigramS, T.len, U.len, hl, envL] at L ⊢
    simp [L]
  · have h2 : ¬ q.getD [] = p.getD [] := fun e => hl (by rw [e])
    have h3 : ¬ ((q.getD []).length : Int) = (p.getD []).length := by omega
    simp [e_laws_eqBigramS, T.len, U.len, h3, h2]

theorem lp_slices_Equal_impl_Bigram_impl_Bigram (env : Nat → Contract) (q p : Sl Bigram) (hq : fit q = true) (hl : (q.getD []).length = (p.getD []).length) : obind (loopP hm0_slices_Equal_impl_Bigram_impl_Bigram xm0_slices_Equal_impl_Bigram_impl_Bigram (lb0_slices_Equal_impl_Bigram_impl_Bigram env) [Sl.enc q, Sl.enc p, und, und, .top, .top, Sl.enc q, iv ((q.getD []).length : Nat), Sl.enc p, iv ((p.getD []).length : Nat), bv false, Sl.enc q, iv ((q.getD []).length : Nat), iv 0, .top, .top, .top, .top, .top, .top, .top, .top, .top, .top, .top, .top] []) (fun r => lk0_slices_Equal_impl_Bigram_impl_Bigram env r.1 r.2.1 r.2.2) = some (bif decide (q.getD [] = p.getD []) then (bv true, []) else (bv false, [])) := by
  have T := lookT q (w := 3) rfl
  have U := lookT p (w := 3) rfl
  have L := loop_eq (A := Bigram) hl (fit_max hq) (hmk := hm0_slices_Equal_impl_Bigram_impl_Bigram) (xm := xm0_slices_Equal_impl_Bigram_impl_Bigram) (body := lb0_slices_Equal_impl_Bigram_impl_Bigram env) (K := fun r => lk0_slices_Equal_impl_Bigram_impl_Bigram env r.1 r.2.1 r.2.2) [] (fun i => [Sl.enc q, Sl.enc p, und, und, .top, .top, Sl.enc q, iv ((q.getD []).length : Nat), Sl.enc p, iv ((p.getD []).length : Nat), bv false, Sl.enc q, iv ((q.getD []).length : Nat), iv (i : Int), .top, .top, .top, .top, .top, .top, .top, .top, .top, .top, .top, .top]) (bv true, []) (bv false, [])
    (by
      intro pre x y S h1 h2 h3
      have h4 : (p.getD [])[pre.length] = y := by simpa [h3] using h2
      rw [loopP.eq_1]
      simp [e_lb0_slices_Equal_impl_Bigram_impl_Bigram, T.len, T.idx, T.load, U.idx, U.load, S.idx, S.lt, S.elt, h1, h3, h4, cut, S.wr, (aCmp_Bigram _ _).1, (aCmp_Bigram _ _).2]
      cases decide (x = y) <;> simp [restr, e_lk0r_slices_Equal_impl_Bigram_impl_Bigram])
    (by
      rw [loopP.eq_1]
      simp [e_lb0_slices_Equal_impl_Bigram_impl_Bigram, T.len, restr, e_lk0x0_slices_Equal_impl_Bigram_impl_Bigram])
  simpa using L
theorem ok_slices_Equal_impl_Bigram_impl_Bigram : PureOK Try.prog n_slices_Equal_impl_Bigram_impl_Bigram (G2 (fun q _ : Sl Bigram => fit q) fun q p => bv (decide (q.getD [] = p.getD []))) :=
  pureG2 E0 mixed hb_slices_Equal_impl_Bigram_impl_Bigram fun q p hq => by
  have T := lookT q (w := 3) rfl
  have U := lookT p (w := 3) rfl
  by_cases hl : (q.getD []).length = (p.getD []).length
  · have L := fun env => lp_slices_Equal_impl_Bigram_impl_Bigram env q p hq hl
    simp [e_slices_Equal_impl_Bigram_impl_Bigram, T.len, U.len, hl] at L ⊢
    simp [L]
  · have h2 : ¬ q.getD [] = p.getD [] := fun e => hl (by rw [e])
    have h3 : ¬ ((q.getD []).length : Int) = (p.getD []).length := by omega
    simp [e_slices_Equal_impl_Bigram_impl_Bigram, T.len, U.len, h3, h2]

theorem ok_laws_szModel : PureOK Try.prog n_laws_szModel (G2 (fun (q : Model) left => szOK q left) fun q left => iv (szR left (Wt.wt q))) :=
  pureG2 (E1 ok_laws_szBigramS) mixed hb_laws_szModel fun q left h => by
  have h' : szOK q.bigrams left = true := h
  obtain ⟨h1, h2, h3⟩ := (szOK_iff q left).1 h
  rw [wt_Model]
  by_cases hl : left < (Wt.wt q.bigrams : Nat)
  · simp [e_laws_szModel, envL, aBox, aLoad, cut, h', szR_lt hl]
  · have : ¬ left - (Wt.wt q.bigrams : Nat) < 0 := by omega
    simp [e_laws_szModel, envL, aBox, aLoad, cut, h', szR_ge hl, this]

theorem ok_laws_toModel : PureOK Try.prog n_laws_toModel (G1 (fun b : Model => fit b) nag) :=
  pureG1 (E1 ok_laws_toBigramS) mixed hb_laws_toModel fun b h => by
  have h' : fit b.bigrams = true := h
  simp [e_laws_toModel, envL, aBox, aLoad, cut, aStore, splice, h', hand_nws, retL, resL, pack]
  refine Rels.release (RelsL.agg (.cons (.sc 3 (isSc_iv _)) (.cons (At.rels (tr_nws b.bigrams (by decide)) ?_ (by decide)) (.nil _))))
  simp

def sameModel (a b : Model) : Bool := decide (a.default = b.default) && decide (a.bigrams.getD [] = b.bigrams.getD [])
theorem ok_laws_eqModel : PureOK Try.prog n_laws_eqModel (G2 (fun b _ : Model => fit b) fun b c => bv (sameModel b c)) :=
  pureG2 (E1 ok_laws_eqBigramS) mixed hb_laws_eqModel fun b c h => by
  have h' : fit b.bigrams = true := h
  simp [e_laws_eqModel, envL, aBox, aLoad, cut, h', sameModel]

theorem ok_impl_SameModel : PureOK Try.prog n_impl_SameModel (G2 (fun b _ : Model => fit b) fun a b => bv (sameModel a b)) :=
  pureG2 (E1 ok_slices_Equal_impl_Bigram_impl_Bigram) mixed hb_impl_SameModel fun b c h => by
  have h' : fit b.bigrams = true := h
  simp [e_impl_SameModel, envL, aBox, aLoad, cut, h', sameModel]

theorem lp_spec_l18Same (env : Nat → Contract) {y2 y3 y6 y7 y8 y9 y10 y11 y12 y13 y14 y15 y16 y17 y18 y19 y20 y21 y22 y23 y24 y25 y26 y27 : AV} (a b : Model) (h : fit a = true) (hl : (a.bigrams.getD []).length = (b.bigrams.getD []).length) :
    (obind (loopP hm0_spec_l18Same xm0_spec_l18Same (lb0_spec_l18Same env) [.fptr 2 [[iv a.default, Sl.enc a.bigrams]] 0 0, .fptr 2 [[iv b.default, Sl.enc b.bigrams]] 0 0, y2, y3, .top, iv 0, y6, y7, y8, y9, y10, y11, y12, y13, y14, y15, y16, y17, y18, y19, y20, y21, y22, y23, y24, y25, y26, y27, .top, .top, .top, .top, .top, .top, .top, .top, .top, .top, .top, .top, .top, .top, .top, .top, .top, .top, .top, .top, .top, .top, .top, .top] []) fun r => lk0_spec_l18Same env r.1 r.2.1 r.2.2) = some (bif decide (a.bigrams.getD [] = b.bigrams.getD []) then (bv true, []) else (bv false, [])) := by
  have T := lookT a.bigrams (w := 3) rfl
  have U := lookT b.bigrams (w := 3) rfl
  have c0 : ∀ h, aLoad false 1 (.fptr 2 [[iv a.default, Sl.enc a.bigrams]] 0 1) h = some (Sl.enc a.bigrams) := fun _ => rfl
  have c1 : ∀ h, aLoad false 1 (.fptr 2 [[iv b.default, Sl.enc b.bigrams]] 0 1) h = some (Sl.enc b.bigrams) := fun _ => rfl
  have L := loop_eq (A := Bigram) hl (fit_max (q := a.bigrams) h) (hmk := hm0_spec_l18Same) (xm := xm0_spec_l18Same) (body := lb0_spec_l18Same env) (K := fun r => lk0_spec_l18Same env r.1 r.2.1 r.2.2) [] (fun i => [.fptr 2 [[iv a.default, Sl.enc a.bigrams]] 0 0, .fptr 2 [[iv b.default, Sl.enc b.bigrams]] 0 0, y2, y3, .top, iv (i : Int), y6, y7, y8, y9, y10, y11, y12, y13, y14, y15, y16, y17, y18, y19, y20, y21, y22, y23, y24, y25, y26, y27, .top, .top, .top, .top, .top, .top, .top, .top, .top, .top, .top, .top, .top, .top, .top, .top, .top, .top, .top, .top, .top, .top, .top, .top]) (bv true, []) (bv false, [])
    (by
      intro pre x y S h1 h2 h3
      have h4 : (b.bigrams.getD [])[pre.length] = y := by simpa [h3] using h2
      rw [loopP.eq_1]
      simp [e_lb0_spec_l18Same, c0, c1, T.len, T.idx, T.load, U.idx, U.load, S.idx, S.lt, S.elt, h1, h3, h4, cut, S.wr, (aCmp_Bigram _ _).1, (aCmp_Bigram _ _).2]
      cases decide (x = y) <;> simp [restr, e_lk0r_spec_l18Same])
    (by
      rw [loopP.eq_1]
      simp [e_lb0_spec_l18Same, c0, T.len, restr, e_lk0x0_spec_l18Same])
  simpa using L
theorem ok_spec_l18Same : PureOK Try.prog n_spec_l18Same (G2 (fun b _ : Ref Model => fit b.val) fun a b => bv (sameModel a.val b.val)) :=
  pureG2 E0 mixed hb_spec_l18Same fun ra rb h => by
  obtain ⟨⟨da, qa⟩⟩ := ra
  obtain ⟨⟨db, qb⟩⟩ := rb
  have T := lookT qa (w := 3) rfl
  have U := lookT qb (w := 3) rfl
  have c0 : ∀ h, aLoad false 1 (.fptr 2 [[iv da, Sl.enc qa]] 0 1) h = some (Sl.enc qa) := fun _ => rfl
  have c1 : ∀ h, aLoad false 1 (.fptr 2 [[iv db, Sl.enc qb]] 0 1) h = some (Sl.enc qb) := fun _ => rfl
  have d0 : ∀ h, aLoad false 1 (.fptr 2 [[iv da, Sl.enc qa]] 0 0) h = some (iv da) := fun _ => rfl
  have d1 : ∀ h, aLoad false 1 (.fptr 2 [[iv db, Sl.enc qb]] 0 0) h = some (iv db) := fun _ => rfl
  by_cases hd : da = db
  · subst hd
    by_cases hl : (qa.getD []).length = (qb.getD []).length
    · have L := fun env {y2 y3 y6 y7 y8 y9 y10 y11 y12 y13 y14 y15 y16 y17 y18 y19 y20 y21 y22 y23 y24 y25 y26 y27} => @lp_spec_l18Same env y2 y3 y6 y7 y8 y9 y10 y11 y12 y13 y14 y15 y16 y17 y18 y19 y20 y21 y22 y23 y24 y25 y26 y27 ⟨da, qa⟩ ⟨da, qb⟩ h hl
      simp [e_spec_l18Same, c0, c1, d0, d1, T.len, U.len, hl, sameModel] at L ⊢
      simp [L]
    · have h2 : ¬ qa.getD [] = qb.getD [] := fun e => hl (by rw [e])
      have h3 : ¬ ((qa.getD []).length : Int) = (qb.getD []).length := by omega
      simp [e_spec_l18Same, c0, c1, d0, d1, T.len, U.len, h3, h2, sameModel]
  · simp [e_spec_l18Same, c0, c1, d0, d1, hd, T.len, U.len, sameModel]

theorem ok_spec_SameModel : PureOK Try.prog n_spec_SameModel (G2 (fun b _ : Model => fit b) fun a b => bv (sameModel a b)) :=
  pureG2 (E1 ok_spec_l18Same) mixed hb_spec_SameModel fun b c h => by
  have r0 : snapD [⟨2, [[iv b.default, Sl.enc b.bigrams]]⟩, ⟨2, [[iv c.default, Sl.enc c.bigrams]]⟩] (.ptr 0 1 0 0) = some (⟨b⟩ : Ref Model) := snapD_ref b rfl (by simp [omap])
  have r1 : snapD [⟨2, [[iv b.default, Sl.enc b.bigrams]]⟩, ⟨2, [[iv c.default, Sl.enc c.bigrams]]⟩] (.ptr 1 1 0 0) = some (⟨c⟩ : Ref Model) := snapD_ref c rfl (by simp [omap])
  simp [e_spec_SameModel, envL, aBox, r0, r1, h]

theorem ok_laws_FnExactSameModel : PureOK Try.prog n_laws_FnExactSameModel (G2 (fun a b : Model => Wt.big a && Wt.big b) fun _ _ => bv true) :=
  pureG2 (E5 ok_laws_szModel ok_laws_toModel ok_spec_SameModel ok_impl_SameModel ok_laws_eqModel) mixed hb_laws_FnExactSameModel fun a b h => by
  simp at h
  have s1 : szOK a 1048576 = true := by simp [szOK, h]
  by_cases h1 : (1048576 : Int) < (Wt.wt a : Nat)
  · simp [e_laws_FnExactSameModel, envL, aBox, aLoad, cut, s1, szR_lt h1]
  · have r1 : ¬ (1048576 : Int) - (Wt.wt a : Nat) < 0 := by omega
    have s2 : szOK b (1048576 - (Wt.wt a : Nat)) = true := by simp [szOK, h]; omega
    have f1 : fit a = true := fit_wt h1 (by decide)
    by_cases h2 : (1048576 - (Wt.wt a : Nat) : Int) < (Wt.wt b : Nat)
    · simp [e_laws_FnExactSameModel, envL, aBox, aLoad, cut, s1, szR_ge h1, r1, s2, szR_lt h2]
    · have r2 : ¬ (1048576 : Int) - (Wt.wt a : Nat) - (Wt.wt b : Nat) < 0 := by omega
      have f2 : fit b = true := fit_wt h2 (by omega)
      simp [e_laws_FnExactSameModel, envL, aBox, aLoad, cut, s1, szR_ge h1, r1, s2, szR_ge h2, r2, f1, f2, aStore, splice, hand_nag, snapD_nag, fit_norm f1, fit_norm f2, sameModel]
theorem law_FnExactSameModel (a b : Model) (ha : Row.fine a) (hb : Row.fine b) : G2 (fun a b : Model => Wt.big a && Wt.big b) (fun _ _ => bv true) [enc a, enc b] = some (bv true) := G2_enc _ _ a b (by simp [Wt.fb a ha, Wt.fb b hb])

theorem isC_2 {cs : List AV} (h : IsC Try.prog 2 cs) : ∃ x : Int, cs = Row.cells x ∧ Row.fine x := by
  obtain ⟨n, rfl, hn⟩ := IsC.intE Try.underlying2 h
  exact ⟨n, rfl, fine_int hn⟩
theorem isC_9 {cs : List AV} (h : IsC Try.prog 9 cs) : ∃ x : ByteArray, cs = Row.cells x ∧ Row.fine x := by
  obtain ⟨n, rfl, hn⟩ := IsC.strE Try.underlying9 h
  exact ⟨n, rfl, hn⟩
theorem isC_103 {cs : List AV} (h : IsC Try.prog 103 cs) : ∃ x : Bigram, cs = Row.cells x ∧ Row.fine x := by
  replace h := IsC.structE Try.underlying103 h
  obtain ⟨c0, r0, rfl, q0, k0⟩ := IsFs.consE h
  obtain ⟨c1, r1, rfl, q1, k1⟩ := IsFs.consE k0
  obtain ⟨c2, r2, rfl, q2, k2⟩ := IsFs.consE k1
  cases IsFs.nilE k2
  obtain ⟨v0, rfl, w0⟩ := isC_9 q0
  obtain ⟨v1, rfl, w1⟩ := isC_9 q1
  obtain ⟨v2, rfl, w2⟩ := isC_2 q2
  exact ⟨⟨v0, v1, v2⟩, rfl, w0, w1, w2⟩
theorem isC_22 {cs : List AV} (h : IsC Try.prog 22 cs) : ∃ x : (Sl Bigram), cs = Row.cells x ∧ Row.fine x := by
  rcases IsC.sliceE Try.underlying22 h with rfl | ⟨rows, rfl, h1, h2⟩
  · exact ⟨none, rfl, Sl.fineNil⟩
  · exact Sl.isC (by kernel_rfl) h1 fun row hr => isC_103 (h2 row hr)
theorem isC_24 {cs : List AV} (h : IsC Try.prog 24 cs) : ∃ x : Model, cs = Row.cells x ∧ Row.fine x := by
  replace h := IsC.structE Try.underlying24 h
  obtain ⟨c0, r0, rfl, q0, k0⟩ := IsFs.consE h
  obtain ⟨c1, r1, rfl, q1, k1⟩ := IsFs.consE k0
  cases IsFs.nilE k1
  obtain ⟨v0, rfl, w0⟩ := isC_2 q0
  obtain ⟨v1, rfl, w1⟩ := isC_22 q1
  exact ⟨⟨v0, v1⟩, rfl, w0, w1⟩
theorem own : ownKnob Try.prog.godebug = none := by kernel_rfl
theorem laidOut : laidOutB Try.prog = true := by kernel_rfl

set_option maxRecDepth 100000 in
theorem holds : Rows.FnExactSameModelSaid :=
  OpenClaim.holds_of_wide 3 Try.f3 rfl rfl rfl rfl rfl rfl rfl ⟨rfl, rfl, rfl, rfl, rfl⟩ rfl rfl rfl rfl rfl (by kernel_rfl) Try.func3 (by kernel_rfl)
    (of_decide_eq_true (by kernel_rfl)) (by unfold Func.isWrapper; rw [if_neg (by decide +kernel)]; exact ⟨rfl, rfl⟩)
    (fun os started H enc _ => law_lifted (C := Try.checked) (s := Rows.fnExactSameModelSpec) own started (by kernel_rfl) Try.func3
      (ChangeSpec.witness6 (enc := enc) (C := Try.checked) false ⟨#[], #[.agg #[.int .i64 0, .slice none 0 0], .agg #[.int .i64 0, .slice none 0 0]], []⟩ 8 (by kernel_rfl) (by kernel_rfl) (by kernel_rfl) (by kernel_rfl))
      laidOut rfl (tb := 4) rfl Try.underlying4 (ts := [24, 2, 22, 103, 9]) (by kernel_rfl)
      (fun ds h => by match ds, h with | [d0, d1], _ => rfl)
      hb_laws_FnExactSameModel ok_laws_FnExactSameModel (by
    intro l h
    obtain ⟨a0, l0, rfl, g0, k0⟩ := h
    obtain ⟨a1, l1, rfl, g1, k1⟩ := k0
    cases k1
    obtain ⟨c0, rfl, m0⟩ := IsV.structE Try.underlying24 g0
    obtain ⟨b0, rfl, w0⟩ := isC_24 m0
    obtain ⟨c1, rfl, m1⟩ := IsV.structE Try.underlying24 g1
    obtain ⟨b1, rfl, w1⟩ := isC_24 m1
    exact law_FnExactSameModel b0 b1 w0 w1))
#print axioms holds
end Go.Proofs.Ytfladjnggkeiaaa
