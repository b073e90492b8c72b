/-
  The law FnExactSameSymbols holds, for all arguments: it returns true, and its arguments read behind the call as before. No condition.
-/
import Derived.Test.YtnimdpcfgfkdhabFnExactSameSymbolsGen
import Derived.Test.YtnimdpcfgfkdhabRows
namespace Go.Proofs.Ytnimdpcfgfkdhab
open Go Go.Eng Go.Eng.Cod

theorem nil_ok : EnvOK Try.prog (envL []) := E0

theorem ok_laws_toBox : PureOK Try.prog n_laws_toBox (T1 fun b : Box => b) := pureT1 nil_ok mixed hb_laws_toBox fun b => by
  simp [e_laws_toBox, aBox, aLoad, cut, aStore, splice, retL, resL, pack]

theorem ok_laws_eqBox : PureOK Try.prog n_laws_eqBox (T2 fun a b : Box => decide (a = b)) := pureT2 nil_ok mixed hb_laws_eqBox fun a b => by
  simp [e_laws_eqBox, aBox, aLoad, cut]
  obtain ⟨a1, a2, a3, a4⟩ := a
  obtain ⟨b1, b2, b3, b4⟩ := b
  simp

theorem ok_laws_szSymbol : PureOK Try.prog n_laws_szSymbol (G2 (fun (q : Symbol) left => szOK q left) fun q left => iv (szR left (Wt.wt q))) :=
  pureG2 E0 mixed hb_laws_szSymbol fun q left h => by
  obtain ⟨h1, h2, h3⟩ := (szOK_iff q left).1 h
  have h0 : q.label.size ≤ maxLen := of_decide_eq_true h1
  have h4 := sz_len h2 h3 h0
  have h5 : Wt.wt q = q.label.size := rfl
  rw [h5]
  by_cases hl : left < (q.label.size : Nat)
  · have : left - (q.label.size : Nat) < 0 := by omega
    simp [e_laws_szSymbol, aBox, aLoad, cut, h4, this, szR_lt hl]
  · have : ¬ left - (q.label.size : Nat) < 0 := by omega
    simp [e_laws_szSymbol, aBox, aLoad, cut, h4, this, szR_ge hl]

theorem ok_laws_toSymbol : PureOK Try.prog n_laws_toSymbol (T1 fun b : Symbol => b) := pureT1 (E1 ok_laws_toBox) mixed hb_laws_toSymbol fun b => by
  simp [e_laws_toSymbol, envL, aBox, aLoad, cut, aStore, splice, retL, resL, pack]

theorem ok_laws_eqSymbol : PureOK Try.prog n_laws_eqSymbol (T2 fun a b : Symbol => decide (a = b)) := pureT2 (E1 ok_laws_eqBox) mixed hb_laws_eqSymbol fun a b => by
  simp [e_laws_eqSymbol, envL, aBox, aLoad, cut]
  obtain ⟨a0, a1⟩ := a
  obtain ⟨b0, b1⟩ := b
  simp

theorem lp_laws_szSymbolS (env : Nat → Contract) (he : env n_laws_szSymbol = .pure (G2 (fun (q : Symbol) left => szOK q left) fun q left => iv (szR left (Wt.wt q)))) (q : Sl Symbol) (hq : Wt.big q = true) (left s : Int) (hs : 0 ≤ s ∧ s ≤ 1048576) :
    obind (loopP hm0_laws_szSymbolS xm0_laws_szSymbolS (lb0_laws_szSymbolS env) [Sl.enc q, iv s, und, und, .top, iv 0, iv left, Sl.enc q, iv ((q.getD []).length : Nat), iv (left - ((q.getD []).length : Nat)), iv (left - ((q.getD []).length : Nat)), bv false, .top, .top, .top, .top, .top, .top, .top, .top, .top, .top, .top, .top, .top, .top, und] []) (fun r => lk0_laws_szSymbolS env r.1 r.2.1 r.2.2) = some (iv (szR s ((q.getD []).map Wt.wt).sum), []) := by
  have T := lookT q (w := 5) rfl
  exact loop_over (q.getD []) (big_len hq) (hmk := hm0_laws_szSymbolS) (xm := xm0_laws_szSymbolS) (body := lb0_laws_szSymbolS env) (K := fun r => lk0_laws_szSymbolS env r.1 r.2.1 r.2.2) (σ := Int) (fun s i => [Sl.enc q, iv s, und, und, .top, iv (i : Int), iv left, Sl.enc q, iv ((q.getD []).length : Nat), iv (left - ((q.getD []).length : Nat)), iv (left - ((q.getD []).length : Nat)), bv false, .top, .top, .top, .top, .top, .top, .top, .top, .top, .top, .top, .top, .top, .top, und]) (fun _ => [])
    (fun s _ => 0 ≤ s ∧ s ≤ 1048576) (fun s suf => some (iv (szR s (suf.map Wt.wt).sum), []))
    (fun pre x suf s hl hi S => by
      have hb : Wt.big x = true := big_mem hq (by rw [hl]; simp)
      have ho : szOK x s = true := (szOK_iff x s).2 ⟨hb, hi.1, hi.2⟩
      by_cases h : s < (Wt.wt x : Nat)
      · left
        rw [loopP.eq_1]
        have h2 := szR_lt' (v := (suf.map Wt.wt).sum) h
        simp only [List.map_cons, List.sum_cons, h2]
        simp [e_lb0_laws_szSymbolS, T.len, T.idx, T.load, S.idx, S.lt, S.elt, cut, S.wr, he, ho, szR_lt h, restr, e_lk0r_laws_szSymbolS]
      · right
        refine ⟨s - (Wt.wt x : Nat), ⟨by omega, by omega⟩, ?_, ?_⟩
        · rw [loopP.eq_1]
          have h3 : ¬ s - (Wt.wt x : Nat) < 0 := by omega
          simp [e_lb0_laws_szSymbolS, T.len, T.idx, T.load, S.idx, S.lt, S.elt, cut, S.wr, he, ho, szR_ge h, h3, restr]
        · simp only [List.map_cons, List.sum_cons, szR_add h])
    (fun s hi => by
      rw [loopP.eq_1]
      have h3 : ¬ s < 0 := by omega
      simp [e_lb0_laws_szSymbolS, T.len, restr, e_lk0x0_laws_szSymbolS, szR, h3]) s hs
theorem ok_laws_szSymbolS : PureOK Try.prog n_laws_szSymbolS (G2 (fun (q : Sl Symbol) left => szOK q left) fun q left => iv (szR left (Wt.wt q))) :=
  pureG2 (E1 ok_laws_szSymbol) mixed hb_laws_szSymbolS fun q left h => by
  have T := lookT q (w := 5) rfl
  obtain ⟨h1, h2, h3⟩ := (szOK_iff q left).1 h
  have h4 := sz_len h2 h3 (big_len h1)
  rw [wt_sl]
  by_cases hl : left < ((q.getD []).length : Nat)
  · have h5 : left - ((q.getD []).length : Nat) < 0 := by omega
    simp [e_laws_szSymbolS, T.len, h4, h5, szR_lt' hl]
  · have h5 : ¬ left - ((q.getD []).length : Nat) < 0 := by omega
    have L := fun env he => lp_laws_szSymbolS env he q h1 left (left - ((q.getD []).length : Nat)) ⟨by omega, by omega⟩
    simp [e_laws_szSymbolS, T.len, h4, h5, L, envL, szR_add hl]

theorem lp_laws_toSymbolS (env : Nat → Contract) (q : Sl Symbol) (hq : fit q = true) (he : env n_laws_toSymbol = .pure (T1 fun b : Symbol => b)) : obind (loopP hm0_laws_toSymbolS xm0_laws_toSymbolS (lb0_laws_toSymbolS env) [Sl.enc q, und, nilS, .sl 0 (q.getD []).length 0 (q.getD []).length, iv 0, Sl.enc q, iv ((q.getD []).length : Nat), .sl 0 (q.getD []).length 0 (q.getD []).length, .top, .top, .top, .top, .top, .top, .top, .top, .top, .top, .top, .top, .top, .top, und] [⟨5, List.replicate (q.getD []).length [(sv ⟨#[]⟩), (iv 0), (iv 0), (iv 0), (iv 0)]⟩]) (fun r => lk0_laws_toSymbolS env r.1 r.2.1 r.2.2) = some (.sl 0 (q.getD []).length 0 (q.getD []).length, mt (nws q) 0) := by
  have T := lookT q (w := 5) rfl
  have L := loop_fill (A := Symbol) (by decide) (q.getD []) (hm := hm0_laws_toSymbolS) (xm := xm0_laws_toSymbolS) (body := lb0_laws_toSymbolS env) (K := fun r => lk0_laws_toSymbolS env r.1 r.2.1 r.2.2) [(sv ⟨#[]⟩), (iv 0), (iv 0), (iv 0), (iv 0)] (fun i => [Sl.enc q, und, nilS, .sl 0 (q.getD []).length 0 (q.getD []).length, iv (i : Int), Sl.enc q, iv ((q.getD []).length : Nat), .sl 0 (q.getD []).length 0 (q.getD []).length, .top, .top, .top, .top, .top, .top, .top, .top, .top, .top, .top, .top, .top, .top, und]) (by
    intro pre a suf rows objs hl hr
    have S := Stp.mk' hl (fit_max hq)
    have hn : pre.length + 1 + suf.length = (q.getD []).length := by rw [hl]; simp; omega
    have hfit : fit a = true := fit_mem hq (by rw [hl]; simp)
    have fa := fun objs => fill_addr (w := 5) (rows := rows) (objs := objs) (z := [(sv ⟨#[]⟩), (iv 0), (iv 0), (iv 0), (iv 0)]) hr hn
    have fs := fun objs v => fill_store (w := 5) (rows := rows) (objs := objs) (z := [(sv ⟨#[]⟩), (iv 0), (iv 0), (iv 0), (iv 0)]) (v := v) hr hn rfl
    rw [loopP.eq_1]
    simp [e_lb0_laws_toSymbolS, T.len, T.idx, T.load, S.idx, S.lt, S.elt, cut, S.wr, fa, he]
    rw [fs _ _ rfl (by simp)]
    simp [restr])
  simp at L
  rw [L, loopP.eq_1]
  simp [e_lb0_laws_toSymbolS, T.len, restr, e_lk0x0_laws_toSymbolS]
  rfl
theorem ok_laws_toSymbolS : PureOK Try.prog n_laws_toSymbolS (G1 (fun q : Sl Symbol => fit q) nws) :=
  pureG1 (E1 ok_laws_toSymbol) mixed hb_laws_toSymbolS fun q hq => by
  have T := lookT q (w := 5) rfl
  have M := make_ok (bytes := 48) [(sv ⟨#[]⟩), (iv 0), (iv 0), (iv 0), (iv 0)] [] (fit_len hq) (by decide)
  simp at M
  have L := fun env he => lp_laws_toSymbolS env q hq he
  simp [e_laws_toSymbolS, T.len, M, L, envL]
  exact release_nws (by decide) q

theorem lp_laws_eqSymbolS (env : Nat → Contract) (q p : Sl Symbol) (hq : fit q = true) (hl : (q.getD []).length = (p.getD []).length) (he : env n_laws_eqSymbol = .pure (T2 fun a b : Symbol => decide (a = b))) : obind (loopP hm0_laws_eqSymbolS xm0_laws_eqSymbolS (lb0_laws_eqSymbolS env) [Sl.enc q, Sl.enc p, und, und, .top, iv 0, Sl.enc q, iv ((q.getD []).length : Nat), Sl.enc p, iv ((p.getD []).length : Nat), bv false, .top, .top, .top, .top, .top, .top, .top, .top, .top, .top, .top, .top, .top, .top, .top, .top] []) (fun r => lk0_laws_eqSymbolS env r.1 r.2.1 r.2.2) = some (bif decide (q.getD [] = p.getD []) then (bv true, []) else (bv false, [])) := by
  have T := lookT q (w := 5) rfl
  have U := lookT p (w := 5) rfl
  have L := loop_eq (A := Symbol) hl (fit_max hq) (hmk := hm0_laws_eqSymbolS) (xm := xm0_laws_eqSymbolS) (body := lb0_laws_eqSymbolS env) (K := fun r => lk0_laws_eqSymbolS env r.1 r.2.1 r.2.2) [] (fun i => [Sl.enc q, Sl.enc p, und, und, .top, iv (i : Int), Sl.enc q, iv ((q.getD []).length : Nat), Sl.enc p, iv ((p.getD []).length : Nat), bv false, .top, .top, .top, .top, .top, .top, .top, .top, .top, .top, .top, .top, .top, .top, .top, .top]) (bv true, []) (bv false, [])
    (by
      intro pre x y S h1 h2 h3
      have h4 : (p.getD [])[pre.length] = y := by simpa [h3] using h2
      rw [loopP.eq_1]
      simp [e_lb0_laws_eqSymbolS, T.len, T.idx, T.load, U.idx, U.load, S.idx, S.lt, S.elt, h1, h3, h4, cut, S.wr, he]
      cases decide (x = y) <;> simp [restr, e_lk0r_laws_eqSymbolS])
    (by
      rw [loopP.eq_1]
      simp [e_lb0_laws_eqSymbolS, T.len, restr, e_lk0x0_laws_eqSymbolS])
  simpa using L
theorem ok_laws_eqSymbolS : PureOK Try.prog n_laws_eqSymbolS (G2 (fun q _ : Sl Symbol => fit q) fun q p => bv (decide (q.getD [] = p.getD []))) :=
  pureG2 (E1 ok_laws_eqSymbol) mixed hb_laws_eqSymbolS fun q p hq => by
  have T := lookT q (w := 5) rfl
  have U := lookT p (w := 5) rfl
  by_cases hl : (q.getD []).length = (p.getD []).length
  · have L := fun env he => lp_laws_eqSymbolS env q p hq hl he
    simp [e_laws_eqSymbolS, T.len, U.len, hl, envL] at L ⊢
    simp [L]
  · have h2 : ¬ q.getD [] = p.getD [] := fun e => hl (by rw [e])
    have h3 : ¬ ((q.getD []).length : Int) = (p.getD []).length := by omega
    simp [e_laws_eqSymbolS, T.len, U.len, h3, h2]

theorem lp_slices_Equal_impl_Symbol_impl_Symbol (env : Nat → Contract) (q p : Sl Symbol) (hq : fit q = true) (hl : (q.getD []).length = (p.getD []).length) : obind (loopP hm0_slices_Equal_impl_Symbol_impl_Symbol xm0_slices_Equal_impl_Symbol_impl_Symbol (lb0_slices_Equal_impl_Symbol_impl_Symbol env) [Sl.enc q, Sl.enc p, und, und, .top, .top, Sl.enc q, iv ((q.getD []).length : Nat), Sl.enc p, iv ((p.getD []).length : Nat), bv false, Sl.enc q, iv ((q.getD []).length : Nat), iv 0, .top, .top, .top, .top, .top, .top, .top, .top, .top, .top, .top, .top] []) (fun r => lk0_slices_Equal_impl_Symbol_impl_Symbol env r.1 r.2.1 r.2.2) = some (bif decide (q.getD [] = p.getD []) then (bv true, []) else (bv false, [])) := by
  have T := lookT q (w := 5) rfl
  have U := lookT p (w := 5) rfl
  have L := loop_eq (A := Symbol) hl (fit_max hq) (hmk := hm0_slices_Equal_impl_Symbol_impl_Symbol) (xm := xm0_slices_Equal_impl_Symbol_impl_Symbol) (body := lb0_slices_Equal_impl_Symbol_impl_Symbol env) (K := fun r => lk0_slices_Equal_impl_Symbol_impl_Symbol env r.1 r.2.1 r.2.2) [] (fun i => [Sl.enc q, Sl.enc p, und, und, .top, .top, Sl.enc q, iv ((q.getD []).length : Nat), Sl.enc p, iv ((p.getD []).length : Nat), bv false, Sl.enc q, iv ((q.getD []).length : Nat), iv (i : Int), .top, .top, .top, .top, .top, .top, .top, .top, .top, .top, .top, .top]) (bv true, []) (bv false, [])
    (by
      intro pre x y S h1 h2 h3
      have h4 : (p.getD [])[pre.length] = y := by simpa [h3] using h2
      rw [loopP.eq_1]
      simp [e_lb0_slices_Equal_impl_Symbol_impl_Symbol, T.len, T.idx, T.load, U.idx, U.load, S.idx, S.lt, S.elt, h1, h3, h4, cut, S.wr, (aCmp_Symbol _ _).1, (aCmp_Symbol _ _).2]
      cases decide (x = y) <;> simp [restr, e_lk0r_slices_Equal_impl_Symbol_impl_Symbol])
    (by
      rw [loopP.eq_1]
      simp [e_lb0_slices_Equal_impl_Symbol_impl_Symbol, T.len, restr, e_lk0x0_slices_Equal_impl_Symbol_impl_Symbol])
  simpa using L
theorem ok_slices_Equal_impl_Symbol_impl_Symbol : PureOK Try.prog n_slices_Equal_impl_Symbol_impl_Symbol (G2 (fun q _ : Sl Symbol => fit q) fun q p => bv (decide (q.getD [] = p.getD []))) :=
  pureG2 E0 mixed hb_slices_Equal_impl_Symbol_impl_Symbol fun q p hq => by
  have T := lookT q (w := 5) rfl
  have U := lookT p (w := 5) rfl
  by_cases hl : (q.getD []).length = (p.getD []).length
  · have L := fun env => lp_slices_Equal_impl_Symbol_impl_Symbol env q p hq hl
    simp [e_slices_Equal_impl_Symbol_impl_Symbol, T.len, U.len, hl] at L ⊢
    simp [L]
  · have h2 : ¬ q.getD [] = p.getD [] := fun e => hl (by rw [e])
    have h3 : ¬ ((q.getD []).length : Int) = (p.getD []).length := by omega
    simp [e_slices_Equal_impl_Symbol_impl_Symbol, T.len, U.len, h3, h2]

theorem lp_spec_SameSymbols (env : Nat → Contract) (q p : Sl Symbol) (hq : fit q = true) (hl : (q.getD []).length = (p.getD []).length) : obind (loopP hm0_spec_SameSymbols xm0_spec_SameSymbols (lb0_spec_SameSymbols env) [Sl.enc q, Sl.enc p, und, und, .top, iv 0, Sl.enc q, iv ((q.getD []).length : Nat), Sl.enc p, iv ((p.getD []).length : Nat), bv false, .top, .top, .top, .top, .top, .top, .top, .top, .top, .top, .top, .top, .top, .top, .top] []) (fun r => lk0_spec_SameSymbols env r.1 r.2.1 r.2.2) = some (bif decide (q.getD [] = p.getD []) then (bv true, []) else (bv false, [])) := by
  have T := lookT q (w := 5) rfl
  have U := lookT p (w := 5) rfl
  have L := loop_eq (A := Symbol) hl (fit_max hq) (hmk := hm0_spec_SameSymbols) (xm := xm0_spec_SameSymbols) (body := lb0_spec_SameSymbols env) (K := fun r => lk0_spec_SameSymbols env r.1 r.2.1 r.2.2) [] (fun i => [Sl.enc q, Sl.enc p, und, und, .top, iv (i : Int), Sl.enc q, iv ((q.getD []).length : Nat), Sl.enc p, iv ((p.getD []).length : Nat), bv false, .top, .top, .top, .top, .top, .top, .top, .top, .top, .top, .top, .top, .top, .top, .top]) (bv true, []) (bv false, [])
    (by
      intro pre x y S h1 h2 h3
      have h4 : (p.getD [])[pre.length] = y := by simpa [h3] using h2
      rw [loopP.eq_1]
      simp [e_lb0_spec_SameSymbols, T.len, T.idx, T.load, U.idx, U.load, S.idx, S.lt, S.elt, h1, h3, h4, cut, S.wr, (aCmp_Symbol _ _).1, (aCmp_Symbol _ _).2]
      cases decide (x = y) <;> simp [restr, e_lk0r_spec_SameSymbols])
    (by
      rw [loopP.eq_1]
      simp [e_lb0_spec_SameSymbols, T.len, restr, e_lk0x0_spec_SameSymbols])
  simpa using L
theorem ok_spec_SameSymbols : PureOK Try.prog n_spec_SameSymbols (G2 (fun q _ : Sl Symbol => fit q) fun q p => bv (decide (q.getD [] = p.getD []))) :=
  pureG2 E0 mixed hb_spec_SameSymbols fun q p hq => by
  have T := lookT q (w := 5) rfl
  have U := lookT p (w := 5) rfl
  by_cases hl : (q.getD []).length = (p.getD []).length
  · have L := fun env => lp_spec_SameSymbols env q p hq hl
    simp [e_spec_SameSymbols, T.len, U.len, hl] at L ⊢
    simp [L]
  · have h2 : ¬ q.getD [] = p.getD [] := fun e => hl (by rw [e])
    have h3 : ¬ ((q.getD []).length : Int) = (p.getD []).length := by omega
    simp [e_spec_SameSymbols, T.len, U.len, h3, h2]

theorem ok_impl_SameSymbols : PureOK Try.prog n_impl_SameSymbols (G2 (fun q _ : Sl Symbol => fit q) fun q p => bv (decide (q.getD [] = p.getD []))) :=
  pureG2 (E1 ok_slices_Equal_impl_Symbol_impl_Symbol) mixed hb_impl_SameSymbols fun q p h => by
  simp [e_impl_SameSymbols, envL, h]

theorem ok_laws_FnExactSameSymbols : PureOK Try.prog n_laws_FnExactSameSymbols (G2 (fun a b : Sl Symbol => Wt.big a && Wt.big b) fun _ _ => bv true) :=
  pureG2 (E5 ok_laws_szSymbolS ok_laws_toSymbolS ok_spec_SameSymbols ok_impl_SameSymbols ok_laws_eqSymbolS) mixed hb_laws_FnExactSameSymbols fun a b h => by
  simp at h
  have s1 : szOK a 1048576 = true := by simp [szOK, h]
  by_cases h1 : (1048576 : Int) < (Wt.wt a : Nat)
  · simp [e_laws_FnExactSameSymbols, envL, s1, szR_lt h1]
  · have r1 : ¬ (1048576 : Int) - (Wt.wt a : Nat) < 0 := by omega
    have s2 : szOK b (1048576 - (Wt.wt a : Nat)) = true := by simp [szOK, h]; omega
    have f1 : fit a = true := fit_wt h1 (by decide)
    by_cases h2 : (1048576 - (Wt.wt a : Nat) : Int) < (Wt.wt b : Nat)
    · simp [e_laws_FnExactSameSymbols, envL, s1, szR_ge h1, r1, s2, szR_lt h2]
    · have r2 : ¬ (1048576 : Int) - (Wt.wt a : Nat) - (Wt.wt b : Nat) < 0 := by omega
      have f2 : fit b = true := fit_wt h2 (by omega)
      simp [e_laws_FnExactSameSymbols, envL, s1, szR_ge h1, r1, s2, szR_ge h2, r2, f1, f2, hand_nws, snapD_nws, fit_norm f1, fit_norm f2]
theorem law_FnExactSameSymbols (a b : Sl Symbol) (ha : Row.fine a) (hb : Row.fine b) : G2 (fun a b : Sl Symbol => Wt.big a && Wt.big b) (fun _ _ => bv true) [enc a, enc b] = some (bv true) := G2_enc _ _ a b (by simp [Wt.fb a ha, Wt.fb b hb])

theorem isC_9 {cs : List AV} (h : IsC Try.prog 9 cs) : ∃ x : ByteArray, cs = Row.cells x ∧ Row.fine x := by
  obtain ⟨n, rfl, hn⟩ := IsC.strE Try.underlying9 h
  exact ⟨n, rfl, hn⟩
theorem isC_2 {cs : List AV} (h : IsC Try.prog 2 cs) : ∃ x : Int, cs = Row.cells x ∧ Row.fine x := by
  obtain ⟨n, rfl, hn⟩ := IsC.intE Try.underlying2 h
  exact ⟨n, rfl, fine_int hn⟩
theorem isC_71 {cs : List AV} (h : IsC Try.prog 71 cs) : ∃ x : Box, cs = Row.cells x ∧ Row.fine x := by
  replace h := IsC.structE Try.underlying71 h
  obtain ⟨c0, r0, rfl, q0, k0⟩ := IsFs.consE h
  obtain ⟨c1, r1, rfl, q1, k1⟩ := IsFs.consE k0
  obtain ⟨c2, r2, rfl, q2, k2⟩ := IsFs.consE k1
  obtain ⟨c3, r3, rfl, q3, k3⟩ := IsFs.consE k2
  cases IsFs.nilE k3
  obtain ⟨v0, rfl, w0⟩ := isC_2 q0
  obtain ⟨v1, rfl, w1⟩ := isC_2 q1
  obtain ⟨v2, rfl, w2⟩ := isC_2 q2
  obtain ⟨v3, rfl, w3⟩ := isC_2 q3
  exact ⟨⟨v0, v1, v2, v3⟩, rfl, w0, w1, w2, w3⟩
theorem isC_73 {cs : List AV} (h : IsC Try.prog 73 cs) : ∃ x : Symbol, cs = Row.cells x ∧ Row.fine x := by
  replace h := IsC.structE Try.underlying73 h
  obtain ⟨c0, r0, rfl, q0, k0⟩ := IsFs.consE h
  obtain ⟨c1, r1, rfl, q1, k1⟩ := IsFs.consE k0
  cases IsFs.nilE k1
  obtain ⟨v0, rfl, w0⟩ := isC_9 q0
  obtain ⟨v1, rfl, w1⟩ := isC_71 q1
  exact ⟨⟨v0, v1⟩, rfl, w0, w1⟩
theorem isC_50 {cs : List AV} (h : IsC Try.prog 50 cs) : ∃ x : (Sl Symbol), cs = Row.cells x ∧ Row.fine x := by
  rcases IsC.sliceE Try.underlying50 h with rfl | ⟨rows, rfl, h1, h2⟩
  · exact ⟨none, rfl, Sl.fineNil⟩
  · exact Sl.isC (by kernel_rfl) h1 fun row hr => isC_73 (h2 row hr)
theorem own : ownKnob Try.prog.godebug = none := by kernel_rfl
theorem laidOut : laidOutB Try.prog = true := by kernel_rfl

set_option maxRecDepth 100000 in
theorem holds : Rows.FnExactSameSymbolsSaid :=
  OpenClaim.holds_of_wide 8 Try.f8 rfl rfl rfl rfl rfl rfl rfl ⟨rfl, rfl, rfl, rfl, rfl⟩ rfl rfl rfl rfl rfl (by kernel_rfl) Try.func8 (by kernel_rfl)
    (of_decide_eq_true (by kernel_rfl)) (by unfold Func.isWrapper; rw [if_neg (by decide +kernel)]; exact ⟨rfl, rfl⟩)
    (fun os started H enc _ => law_lifted (C := Try.checked) (s := Rows.fnExactSameSymbolsSpec) own started (by kernel_rfl) Try.func8
      (ChangeSpec.witness6 (enc := enc) (C := Try.checked) false ⟨#[], #[.slice none 0 0, .slice none 0 0], []⟩ 8 (by kernel_rfl) (by kernel_rfl) (by kernel_rfl) (by kernel_rfl))
      laidOut rfl (tb := 4) rfl Try.underlying4 (ts := [50, 73, 9, 71, 2]) (by kernel_rfl)
      (fun ds h => by match ds, h with | [d0, d1], _ => rfl)
      hb_laws_FnExactSameSymbols ok_laws_FnExactSameSymbols (by
    intro l h
    obtain ⟨a0, l0, rfl, g0, k0⟩ := h
    obtain ⟨a1, l1, rfl, g1, k1⟩ := k0
    cases k1
    obtain ⟨b0, e0, w0⟩ := isC_50 (isV_one (by kernel_rfl) g0)
    obtain rfl := one_enc e0
    obtain ⟨b1, e1, w1⟩ := isC_50 (isV_one (by kernel_rfl) g1)
    obtain rfl := one_enc e1
    exact law_FnExactSameSymbols b0 b1 w0 w1))
#print axioms holds
end Go.Proofs.Ytnimdpcfgfkdhab
