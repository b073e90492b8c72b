/-
  The law FnExactLineOfPoint holds, for all arguments: it returns true, and its arguments read behind the call as before. No condition.
-/
import Derived.Test.YtfladjnggkeiaaaFnExactLineOfPointGen
import Derived.Test.YtfladjnggkeiaaaRows
namespace Go.Proofs.Ytfladjnggkeiaaa
open Go Go.Eng Go.Eng.Cod

theorem nil_ok : EnvOK Try.prog (envL []) := E0

def within (a b c : Int) : Bool := decide (b ≤ a) && decide (a ≤ c)

theorem ok_impl_within : PureOK Try.prog n_impl_within (T3 within) := pureT3 nil_ok mixed hb_impl_within fun a b c => by
  simp [e_impl_within, within]

theorem ok_spec_l00In : PureOK Try.prog n_spec_l00In (T3 within) := pureT3 nil_ok mixed hb_spec_l00In fun a b c => by
  simp [e_spec_l00In, within]

theorem ok_spec_l00Max : PureOK Try.prog n_spec_l00Max (T2 fun a b : Int => max a b) := pureT2 nil_ok mixed hb_spec_l00Max fun a b => by
  simp [e_spec_l00Max, maxI]

theorem ok_laws_szInt64S : PureOK Try.prog n_laws_szInt64S (G2 (fun (q : Sl Int) left => szOK q left) fun q left => iv (szR left (Wt.wt q))) :=
  pureG2 E0 mixed hb_laws_szInt64S fun q left h => by
  have T := lookT q (w := 1) rfl
  obtain ⟨h1, h2, h3⟩ := (szOK_iff q left).1 h
  have h4 := sz_len h2 h3 (big_len h1)
  rw [wt_zero (fun _ => rfl) q]
  by_cases hl : left < ((q.getD []).length : Nat)
  · have : left - ((q.getD []).length : Nat) < 0 := by omega
    simp [e_laws_szInt64S, T.len, h4, this, szR_lt hl]
  · have : ¬ left - ((q.getD []).length : Nat) < 0 := by omega
    simp [e_laws_szInt64S, T.len, h4, this, szR_ge hl]

theorem lp_laws_toInt64S (env : Nat → Contract) (q : Sl Int) (hq : fit q = true) : obind (loopP hm0_laws_toInt64S xm0_laws_toInt64S (lb0_laws_toInt64S env) [Sl.enc q, und, nilS, .sl 0 (q.getD []).length 0 (q.getD []).length, iv 0, Sl.enc q, iv ((q.getD []).length : Nat), .sl 0 (q.getD []).length 0 (q.getD []).length, .top, .top, .top, .top, .top, .top, .top, .top, .top, .top, .top, .top, .top, und] [⟨1, List.replicate (q.getD []).length [(iv 0)]⟩]) (fun r => lk0_laws_toInt64S env r.1 r.2.1 r.2.2) = some (.sl 0 (q.getD []).length 0 (q.getD []).length, mt (nws q) 0) := by
  have T := lookT q (w := 1) rfl
  have L := loop_fill (A := Int) (by decide) (q.getD []) (hm := hm0_laws_toInt64S) (xm := xm0_laws_toInt64S) (body := lb0_laws_toInt64S env) (K := fun r => lk0_laws_toInt64S env r.1 r.2.1 r.2.2) [(iv 0)] (fun i => [Sl.enc q, und, nilS, .sl 0 (q.getD []).length 0 (q.getD []).length, iv (i : Int), Sl.enc q, iv ((q.getD []).length : Nat), .sl 0 (q.getD []).length 0 (q.getD []).length, .top, .top, .top, .top, .top, .top, .top, .top, .top, .top, .top, .top, .top, und]) (by
    intro pre a suf rows objs hl hr
    have S := Stp.mk' hl (fit_max hq)
    have hn : pre.length + 1 + suf.length = (q.getD []).length := by rw [hl]; simp; omega
    have hfit : fit a = true := fit_mem hq (by rw [hl]; simp)
    have fa := fun objs => fill_addr (w := 1) (rows := rows) (objs := objs) (z := [(iv 0)]) hr hn
    have fs := fun objs v => fill_store (w := 1) (rows := rows) (objs := objs) (z := [(iv 0)]) (v := v) hr hn rfl
    rw [loopP.eq_1]
    simp [e_lb0_laws_toInt64S, T.len, T.idx, T.load, S.idx, S.lt, S.elt, cut, S.wr, fa]
    rw [fs _ _ rfl (by simp)]
    simp [restr])
  simp at L
  rw [L, loopP.eq_1]
  simp [e_lb0_laws_toInt64S, T.len, restr, e_lk0x0_laws_toInt64S]
  rfl
theorem ok_laws_toInt64S : PureOK Try.prog n_laws_toInt64S (G1 (fun q : Sl Int => fit q) nws) :=
  pureG1 E0 mixed hb_laws_toInt64S fun q hq => by
  have T := lookT q (w := 1) rfl
  have M := make_ok (bytes := 8) [(iv 0)] [] (fit_len hq) (by decide)
  simp at M
  have L := fun env => lp_laws_toInt64S env q hq
  simp [e_laws_toInt64S, T.len, M, L]
  exact release_nws (by decide) q

theorem lp_laws_eqInt64S (env : Nat → Contract) (q p : Sl Int) (hq : fit q = true) (hl : (q.getD []).length = (p.getD []).length) : obind (loopP hm0_laws_eqInt64S xm0_laws_eqInt64S (lb0_laws_eqInt64S env) [Sl.enc q, Sl.enc p, und, und, .top, iv 0, Sl.enc q, iv ((q.getD []).length : Nat), Sl.enc p, iv ((p.getD []).length : Nat), bv false, .top, .top, .top, .top, .top, .top, .top, .top, .top, .top, .top, .top, .top, .top, .top] []) (fun r => lk0_laws_eqInt64S env r.1 r.2.1 r.2.2) = some (bif decide (q.getD [] = p.getD []) then (bv true, []) else (bv false, [])) := by
  have T := lookT q (w := 1) rfl
  have U := lookT p (w := 1) rfl
  have L := loop_eq (A := Int) hl (fit_max hq) (hmk := hm0_laws_eqInt64S) (xm := xm0_laws_eqInt64S) (body := lb0_laws_eqInt64S env) (K := fun r => lk0_laws_eqInt64S env r.1 r.2.1 r.2.2) [] (fun i => [Sl.enc q, Sl.enc p, und, und, .top, iv (i : Int), Sl.enc q, iv ((q.getD []).length : Nat), Sl.enc p, iv ((p.getD []).length : Nat), bv false, .top, .top, .top, .top, .top, .top, .top, .top, .top, .top, .top, .top, .top, .top, .top]) (bv true, []) (bv false, [])
    (by
      intro pre x y S h1 h2 h3
      have h4 : (p.getD [])[pre.length] = y := by simpa [h3] using h2
      rw [loopP.eq_1]
      simp [e_lb0_laws_eqInt64S, T.len, T.idx, T.load, U.idx, U.load, S.idx, S.lt, S.elt, h1, h3, h4, cut, S.wr]
      cases decide (x = y) <;> simp [restr, e_lk0r_laws_eqInt64S])
    (by
      rw [loopP.eq_1]
      simp [e_lb0_laws_eqInt64S, T.len, restr, e_lk0x0_laws_eqInt64S])
  simpa using L
theorem ok_laws_eqInt64S : PureOK Try.prog n_laws_eqInt64S (G2 (fun q _ : Sl Int => fit q) fun q p => bv (decide (q.getD [] = p.getD []))) :=
  pureG2 E0 mixed hb_laws_eqInt64S fun q p hq => by
  have T := lookT q (w := 1) rfl
  have U := lookT p (w := 1) rfl
  by_cases hl : (q.getD []).length = (p.getD []).length
  · have L := fun env => lp_laws_eqInt64S env q p hq hl
    simp [e_laws_eqInt64S, T.len, U.len, hl] at L ⊢
    simp [L]
  · have h2 : ¬ q.getD [] = p.getD [] := fun e => hl (by rw [e])
    have h3 : ¬ ((q.getD []).length : Int) = (p.getD []).length := by omega
    simp [e_laws_eqInt64S, T.len, U.len, h3, h2]

theorem ok_laws_szLine : PureOK Try.prog n_laws_szLine (G2 (fun (q : Line) left => szOK q left) fun q left => iv (szR left (Wt.wt q))) :=
  pureG2 (E1 ok_laws_szInt64S) mixed hb_laws_szLine fun q left h => by
  have h' : szOK q.items left = true := h
  obtain ⟨h1, h2, h3⟩ := (szOK_iff q left).1 h
  rw [wt_Line]
  by_cases hl : left < (Wt.wt q.items : Nat)
  · simp [e_laws_szLine, envL, aBox, aLoad, cut, h', szR_lt hl]
  · have : ¬ left - (Wt.wt q.items : Nat) < 0 := by omega
    simp [e_laws_szLine, envL, aBox, aLoad, cut, h', szR_ge hl, this]

theorem ok_laws_toLine : PureOK Try.prog n_laws_toLine (G1 (fun b : Line => fit b) nag) :=
  pureG1 (E1 ok_laws_toInt64S) mixed hb_laws_toLine fun b h => by
  have h' : fit b.items = true := h
  simp [e_laws_toLine, envL, aBox, aLoad, cut, aStore, splice, h', hand_nws, retL, resL, pack]
  refine Rels.release (RelsL.agg (.cons (.sc 3 (isSc_iv _)) (.cons (.sc 3 (isSc_iv _)) (.cons (At.rels (tr_nws b.items (by decide)) ?_ (by decide)) (.nil _)))))
  exact At.cons _ (At.cons _ (At.cons _ (At.all _)))

def sameLine (a b : Line) : Bool := decide (a.top = b.top) && (decide (a.bottom = b.bottom) && decide (a.items.getD [] = b.items.getD []))
theorem sameLine_self (a : Line) : sameLine a a = true := by simp [sameLine]

theorem ok_laws_eqLine : PureOK Try.prog n_laws_eqLine (G2 (fun b _ : Line => fit b) fun b c => bv (sameLine b c)) :=
  pureG2 (E1 ok_laws_eqInt64S) mixed hb_laws_eqLine fun b c h => by
  have h' : fit b.items = true := h
  simp [e_laws_eqLine, envL, aBox, aLoad, cut, h', sameLine]

theorem lp_laws_szLineS (env : Nat → Contract) (he : env n_laws_szLine = .pure (G2 (fun (q : Line) left => szOK q left) fun q left => iv (szR left (Wt.wt q)))) (q : Sl Line) (hq : Wt.big q = true) (left s : Int) (hs : 0 ≤ s ∧ s ≤ 1048576) :
    obind (loopP hm0_laws_szLineS xm0_laws_szLineS (lb0_laws_szLineS env) [Sl.enc q, iv s, und, und, .top, iv 0, iv left, Sl.enc q, iv ((q.getD []).length : Nat), iv (left - ((q.getD []).length : Nat)), iv (left - ((q.getD []).length : Nat)), bv false, .top, .top, .top, .top, .top, .top, .top, .top, .top, .top, .top, .top, .top, .top, und] []) (fun r => lk0_laws_szLineS env r.1 r.2.1 r.2.2) = some (iv (szR s ((q.getD []).map Wt.wt).sum), []) := by
  have T := lookT q (w := 3) rfl
  exact loop_over (q.getD []) (big_len hq) (hmk := hm0_laws_szLineS) (xm := xm0_laws_szLineS) (body := lb0_laws_szLineS env) (K := fun r => lk0_laws_szLineS env r.1 r.2.1 r.2.2) (σ := Int) (fun s i => [Sl.enc q, iv s, und, und, .top, iv (i : Int), iv left, Sl.enc q, iv ((q.getD []).length : Nat), iv (left - ((q.getD []).length : Nat)), iv (left - ((q.getD []).length : Nat)), bv false, .top, .top, .top, .top, .top, .top, .top, .top, .top, .top, .top, .top, .top, .top, und]) (fun _ => [])
    (fun s _ => 0 ≤ s ∧ s ≤ 1048576) (fun s suf => some (iv (szR s (suf.map Wt.wt).sum), []))
    (fun pre x suf s hl hi S => by
      have hb : Wt.big x = true := big_mem hq (by rw [hl]; simp)
      have ho : szOK x s = true := (szOK_iff x s).2 ⟨hb, hi.1, hi.2⟩
      by_cases h : s < (Wt.wt x : Nat)
      · left
        rw [loopP.eq_1]
        have h2 := szR_lt' (v := (suf.map Wt.wt).sum) h
        simp only [List.map_cons, List.sum_cons, h2]
        simp [e_lb0_laws_szLineS, T.len, T.idx, T.load, S.idx, S.lt, S.elt, cut, S.wr, he, ho, szR_lt h, restr, e_lk0r_laws_szLineS]
      · right
        refine ⟨s - (Wt.wt x : Nat), ⟨by omega, by omega⟩, ?_, ?_⟩
        · rw [loopP.eq_1]
          have h3 : ¬ s - (Wt.wt x : Nat) < 0 := by omega
          simp [e_lb0_laws_szLineS, T.len, T.idx, T.load, S.idx, S.lt, S.elt, cut, S.wr, he, ho, szR_ge h, h3, restr]
        · simp only [List.map_cons, List.sum_cons, szR_add h])
    (fun s hi => by
      rw [loopP.eq_1]
      have h3 : ¬ s < 0 := by omega
      simp [e_lb0_laws_szLineS, T.len, restr, e_lk0x0_laws_szLineS, szR, h3]) s hs
theorem ok_laws_szLineS : PureOK Try.prog n_laws_szLineS (G2 (fun (q : Sl Line) left => szOK q left) fun q left => iv (szR left (Wt.wt q))) :=
  pureG2 (E1 ok_laws_szLine) mixed hb_laws_szLineS fun q left h => by
  have T := lookT q (w := 3) rfl
  obtain ⟨h1, h2, h3⟩ := (szOK_iff q left).1 h
  have h4 := sz_len h2 h3 (big_len h1)
  rw [wt_sl]
  by_cases hl : left < ((q.getD []).length : Nat)
  · have h5 : left - ((q.getD []).length : Nat) < 0 := by omega
    simp [e_laws_szLineS, T.len, h4, h5, szR_lt' hl]
  · have h5 : ¬ left - ((q.getD []).length : Nat) < 0 := by omega
    have L := fun env he => lp_laws_szLineS env he q h1 left (left - ((q.getD []).length : Nat)) ⟨by omega, by omega⟩
    simp [e_laws_szLineS, T.len, h4, h5, L, envL, szR_add hl]

theorem lp_laws_toLineS (env : Nat → Contract) (q : Sl Line) (hq : fit q = true) (he : env n_laws_toLine = .pure (G1 (fun b : Line => fit b) nag)) : obind (loopP hm0_laws_toLineS xm0_laws_toLineS (lb0_laws_toLineS env) [Sl.enc q, und, nilS, .sl 0 (q.getD []).length 0 (q.getD []).length, iv 0, Sl.enc q, iv ((q.getD []).length : Nat), .sl 0 (q.getD []).length 0 (q.getD []).length, .top, .top, .top, .top, .top, .top, .top, .top, .top, .top, .top, .top, .top, .top, und] [⟨3, List.replicate (q.getD []).length [(iv 0), (iv 0), nilS]⟩]) (fun r => lk0_laws_toLineS env r.1 r.2.1 r.2.2) = some (.sl 0 (q.getD []).length 0 (q.getD []).length, mt (nws q) 0) := by
  have T := lookT q (w := 3) rfl
  have L := loop_fill (A := Line) (by decide) (q.getD []) (hm := hm0_laws_toLineS) (xm := xm0_laws_toLineS) (body := lb0_laws_toLineS env) (K := fun r => lk0_laws_toLineS env r.1 r.2.1 r.2.2) [(iv 0), (iv 0), nilS] (fun i => [Sl.enc q, und, nilS, .sl 0 (q.getD []).length 0 (q.getD []).length, iv (i : Int), Sl.enc q, iv ((q.getD []).length : Nat), .sl 0 (q.getD []).length 0 (q.getD []).length, .top, .top, .top, .top, .top, .top, .top, .top, .top, .top, .top, .top, .top, .top, und]) (by
    intro pre a suf rows objs hl hr
    have S := Stp.mk' hl (fit_max hq)
    have hn : pre.length + 1 + suf.length = (q.getD []).length := by rw [hl]; simp; omega
    have hfit : fit a = true := fit_mem hq (by rw [hl]; simp)
    have fa := fun objs => fill_addr (w := 3) (rows := rows) (objs := objs) (z := [(iv 0), (iv 0), nilS]) hr hn
    have fs := fun objs v => fill_store (w := 3) (rows := rows) (objs := objs) (z := [(iv 0), (iv 0), nilS]) (v := v) hr hn rfl
    rw [loopP.eq_1]
    simp [e_lb0_laws_toLineS, T.len, T.idx, T.load, S.idx, S.lt, S.elt, cut, S.wr, fa, he, hfit, hand_nag, hand_nws]
    rw [fs _ _ rfl (by simp)]
    simp [restr])
  simp at L
  rw [L, loopP.eq_1]
  simp [e_lb0_laws_toLineS, T.len, restr, e_lk0x0_laws_toLineS]
  rfl
theorem ok_laws_toLineS : PureOK Try.prog n_laws_toLineS (G1 (fun q : Sl Line => fit q) nws) :=
  pureG1 (E1 ok_laws_toLine) mixed hb_laws_toLineS fun q hq => by
  have T := lookT q (w := 3) rfl
  have M := make_ok (bytes := 40) [(iv 0), (iv 0), nilS] [] (fit_len hq) (by decide)
  simp at M
  have L := fun env he => lp_laws_toLineS env q hq he
  simp [e_laws_toLineS, T.len, M, L, envL]
  exact release_nws (by decide) q

theorem lp_laws_eqLineS (env : Nat → Contract) (q p : Sl Line) (hq : fit q = true) (hl : (q.getD []).length = (p.getD []).length) (he : env n_laws_eqLine = .pure (G2 (fun b _ : Line => fit b) fun b c => bv (sameLine b c))) : obind (loopP hm0_laws_eqLineS xm0_laws_eqLineS (lb0_laws_eqLineS env) [Sl.enc q, Sl.enc p, und, und, .top, iv 0, Sl.enc q, iv ((q.getD []).length : Nat), Sl.enc p, iv ((p.getD []).length : Nat), bv false, .top, .top, .top, .top, .top, .top, .top, .top, .top, .top, .top, .top, .top, .top, .top, .top] []) (fun r => lk0_laws_eqLineS env r.1 r.2.1 r.2.2) = some (bif ((q.getD []).zip (p.getD [])).all (fun x => sameLine x.1 x.2) then (bv true, []) else (bv false, [])) := by
  have T := lookT q (w := 3) rfl
  have U := lookT p (w := 3) rfl
  have L := loop_eqv (A := Line) sameLine hl (fit_max hq) (hmk := hm0_laws_eqLineS) (xm := xm0_laws_eqLineS) (body := lb0_laws_eqLineS env) (K := fun r => lk0_laws_eqLineS env r.1 r.2.1 r.2.2) [] (fun i => [Sl.enc q, Sl.enc p, und, und, .top, iv (i : Int), Sl.enc q, iv ((q.getD []).length : Nat), Sl.enc p, iv ((p.getD []).length : Nat), bv false, .top, .top, .top, .top, .top, .top, .top, .top, .top, .top, .top, .top, .top, .top, .top, .top]) (bv true, []) (bv false, [])
    (by
      intro pre x y S h1 h2 h3
      have h4 : (p.getD [])[pre.length] = y := by simpa [h3] using h2
      have hfx : fit x = true := fit_mem hq (List.mem_of_getElem? S.get)
      rw [loopP.eq_1]
      simp [e_lb0_laws_eqLineS, T.len, T.idx, T.load, U.idx, U.load, S.idx, S.lt, S.elt, h1, h3, h4, cut, S.wr, he, hfx]
      cases sameLine x y <;> simp [restr, e_lk0r_laws_eqLineS])
    (by
      rw [loopP.eq_1]
      simp [e_lb0_laws_eqLineS, T.len, restr, e_lk0x0_laws_eqLineS])
  simpa using L
theorem ok_laws_eqLineS : PureOK Try.prog n_laws_eqLineS (G2 (fun q _ : Sl Line => fit q) fun q p => bv (eqL sameLine (q.getD []) (p.getD []))) :=
  pureG2 (E1 ok_laws_eqLine) mixed hb_laws_eqLineS fun q p hq => by
  have T := lookT q (w := 3) rfl
  have U := lookT p (w := 3) rfl
  by_cases hl : (q.getD []).length = (p.getD []).length
  · have L := fun env he => lp_laws_eqLineS env q p hq hl he
    simp [e_laws_eqLineS, T.len, U.len, hl, envL, eqL] at L ⊢
    simp [L]
  · have h3 : ¬ ((q.getD []).length : Int) = (p.getD []).length := by omega
    simp [e_laws_eqLineS, T.len, U.len, h3, hl, eqL]

def badLine (l : List Line) (i : Nat) : Bool := match l[i]? with
  | some a => !within a.top 0 a.bottom || (decide (4095 < a.bottom) || (decide (0 < i) && match l[i - 1]? with
    | some b => decide (a.top ≤ b.bottom)
    | none => false))
  | none => false
def away (a : Line) (y : Int) : Int := max (wr (a.top - y)) (max (wr (y - a.bottom)) 0)
def awayAt (l : List Line) (i : Nat) (y : Int) : Int := match l[i]? with
  | some a => away a y
  | none => 0
def nearer (l : List Line) (y : Int) (b i : Nat) : Nat := bif decide (awayAt l i y < awayAt l b y) then i else b
def lineOfPoint (l : List Line) (y : Int) : Int × Int :=
  bif (List.range l.length).any (badLine l) then (0, 1) else bif !within y 0 4095 then (0, 2)
  else bif decide (l.length = 0) then (0, 3) else (((List.range' 1 (l.length - 1)).foldl (nearer l y) 0 : Nat), 0)

theorem ok_impl_isCoord : PureOK Try.prog n_impl_isCoord (T1 fun y => within y 0 4095) := pureT1 (E1 ok_impl_within) mixed hb_impl_isCoord fun y => by
  simp [e_impl_isCoord, envL]

theorem ok_impl_beyond : PureOK Try.prog n_impl_beyond (T3 fun n lo hi : Int => max (wr (lo - n)) (max (wr (n - hi)) 0)) := pureT3 E0 mixed hb_impl_beyond fun n lo hi => by
  have f3 : ∀ a b c : Int, aFold aMax2 (iv a) [iv b, iv c] = some (iv (max a (max b c))) := by
    intro a b c
    have h1 : aFold aMax2 (iv a) [iv b, iv c] = aFold aMax2 (iv (if b > a then b else a)) [iv c] := rfl
    rw [h1, aFold_max]
    congr 2
    split <;> omega
  simp [e_impl_beyond, f3]

theorem ok_spec_l19Away : PureOK Try.prog n_spec_l19Away (G2 (fun (p : Pt Line) (_ : Int) => decide (p.i < p.tab.length)) fun p y => iv (awayAt p.tab p.i y)) :=
  pureG2 (E1 ok_spec_l00Max) mixed hb_spec_l19Away fun p y h => by
  obtain ⟨l, i⟩ := p
  simp at h
  have L := fun g n j h => load_fptr (A := Line) g n 3 i j l h
  simp [e_spec_l19Away, envL, L, h, cut, awayAt, away, Int.max_comm 0]

theorem lp1_impl_LineOfPoint (env : Nat → Contract) (he : env n_impl_within = .pure (T3 within)) (hf : env n_impl_isCoord = .pure (T1 fun y => within y 0 4095)) (hg : env n_impl_beyond = .pure (T3 fun n lo hi : Int => max (wr (lo - n)) (max (wr (n - hi)) 0))) (q : Sl Line) (hq : fit q = true) (y : Int) {y2 y3 y4 y5 y6 y7 y11 y12 y13 y14 y15 y16 y17 y18 y19 y20 y21 y22 y23 y24 y25 y26 y27 y28 y29 y30 y31 y32 y33 y34 y35 y36 y37 y38 y39 y40 y41 y42 y43 y44 y45 y46 y47 y48 y49 y50 y79 : AV} (h0 : 0 < (q.getD []).length) (h : Heap) :
    ((fun (b i : Nat) (h : Heap) => (obind (loopP hm1_impl_LineOfPoint xm1_impl_LineOfPoint (lb1_impl_LineOfPoint env) [Sl.enc q, iv y, y2, y3, y4, y5, y6, y7, iv (b : Nat), .top, .top, y11, y12, y13, y14, y15, y16, y17, y18, y19, y20, y21, y22, y23, y24, y25, y26, y27, y28, y29, y30, y31, y32, y33, y34, y35, y36, y37, y38, y39, y40, y41, y42, y43, y44, y45, y46, y47, y48, y49, y50, Sl.enc q, iv ((q.getD []).length : Nat), iv (i : Nat), .top, .top, .top, .top, .top, .top, .top, .top, .top, .top, .top, .top, .top, .top, .top, .top, .top, .top, .top, .top, .top, .top, .top, .top, .top, y79] h) fun r => lk1_impl_LineOfPoint env r.1 r.2.1 r.2.2).map Prod.fst) 0 0 h) = some (.tup [iv (((List.range' 0 ((q.getD []).length - 0)).foldl (nearer (q.getD []) y) 0 : Nat) : Int), iv 0]) := by
  have T := lookT q (w := 3) rfl
  refine loop_fold (q.getD []).length 0 (by omega) (fun b _ => b < (q.getD []).length) (nearer (q.getD []) y) (fun (b i : Nat) (h : Heap) => (obind (loopP hm1_impl_LineOfPoint xm1_impl_LineOfPoint (lb1_impl_LineOfPoint env) [Sl.enc q, iv y, y2, y3, y4, y5, y6, y7, iv (b : Nat), .top, .top, y11, y12, y13, y14, y15, y16, y17, y18, y19, y20, y21, y22, y23, y24, y25, y26, y27, y28, y29, y30, y31, y32, y33, y34, y35, y36, y37, y38, y39, y40, y41, y42, y43, y44, y45, y46, y47, y48, y49, y50, Sl.enc q, iv ((q.getD []).length : Nat), iv (i : Nat), .top, .top, .top, .top, .top, .top, .top, .top, .top, .top, .top, .top, .top, .top, .top, .top, .top, .top, .top, .top, .top, .top, .top, .top, .top, y79] h) fun r => lk1_impl_LineOfPoint env r.1 r.2.1 r.2.2).map Prod.fst) (fun b => .tup [iv (b : Int), iv 0])
    (fun b i h _ hi hb => ⟨by unfold nearer; cases decide (awayAt (q.getD []) i y < awayAt (q.getD []) b y) <;> simp [hi, hb], ?_⟩) (fun b h hb => ?_) 0 h h0
  · have I := Ix.mk' hi (fit_max hq)
    have J : idx (iv (b : Int)) (q.getD []).length = some b := idx_lt hb
    rw [loopP.eq_1]
    obtain ⟨a, ha⟩ : ∃ a, (q.getD [])[i]'I.lt = a := ⟨_, rfl⟩
    obtain ⟨c, hc⟩ : ∃ c, (q.getD [])[b]'hb = c := ⟨_, rfl⟩
    refine ⟨h ++ [⟨3, [Row.cells a]⟩], ?_⟩
    by_cases h4 : away a y < away c y
    · have h4' := h4
      unfold away at h4'
      simp [e_lb1_impl_LineOfPoint, T.len, T.idx, T.load, T.fld, I.idx, I.lt, J, hb, ha, hc, cut, I.wr, hg, aBox, aStore, splice, load_end, restr, nearer, awayAt, h4, h4']
    · have h4' := h4
      unfold away at h4'
      simp [e_lb1_impl_LineOfPoint, T.len, T.idx, T.load, T.fld, I.idx, I.lt, J, hb, ha, hc, cut, I.wr, hg, aBox, aStore, splice, load_end, restr, nearer, awayAt, h4, h4']
  · rw [loopP.eq_1]
    simp [e_lb1_impl_LineOfPoint, T.len, restr, e_lk1x2_impl_LineOfPoint]
theorem lp0_impl_LineOfPoint (env : Nat → Contract) (he : env n_impl_within = .pure (T3 within)) (hf : env n_impl_isCoord = .pure (T1 fun y => within y 0 4095)) (hg : env n_impl_beyond = .pure (T3 fun n lo hi : Int => max (wr (lo - n)) (max (wr (n - hi)) 0))) (q : Sl Line) (hq : fit q = true) (y : Int) {y2 y3 y8 y9 y10 y45 y46 y47 y48 y49 y50 y51 y52 y53 y54 y55 y56 y57 y58 y59 y60 y61 y62 y63 y64 y65 y66 y67 y68 y69 y70 y71 y72 y73 y74 y75 y76 y77 y78 y79 : AV} (h : Heap) :
    ((fun (i : Nat) (h : Heap) => (obind (loopP hm0_impl_LineOfPoint xm0_impl_LineOfPoint (lb0_impl_LineOfPoint env) [Sl.enc q, iv y, y2, y3, .top, .top, .top, .top, y8, y9, y10, Sl.enc q, iv ((q.getD []).length : Nat), iv (i : Nat), .top, .top, .top, .top, .top, .top, .top, .top, .top, .top, .top, .top, .top, .top, .top, .top, .top, .top, .top, .top, .top, .top, .top, .top, .top, .top, .top, .top, .top, .top, .top, y45, y46, y47, y48, y49, y50, y51, y52, y53, y54, y55, y56, y57, y58, y59, y60, y61, y62, y63, y64, y65, y66, y67, y68, y69, y70, y71, y72, y73, y74, y75, y76, y77, y78, y79] h) fun r => lk0_impl_LineOfPoint env r.1 r.2.1 r.2.2).map Prod.fst) 0 h) = some (enc (lineOfPoint (q.getD []) y)) := by
  have T := lookT q (w := 3) rfl
  have e : enc (lineOfPoint (q.getD []) y) = bif (List.range (q.getD []).length).any (badLine (q.getD [])) then .tup [iv 0, iv 1] else enc (bif !within y 0 4095 then ((0 : Int), (2 : Int)) else bif decide ((q.getD []).length = 0) then (0, 3) else (((List.range' 1 ((q.getD []).length - 1)).foldl (nearer (q.getD []) y) 0 : Nat), 0)) := by
    unfold lineOfPoint
    cases (List.range (q.getD []).length).any (badLine (q.getD [])) <;> simp
  rw [e]
  refine loop_any (q.getD []).length (badLine (q.getD [])) (fun (i : Nat) (h : Heap) => (obind (loopP hm0_impl_LineOfPoint xm0_impl_LineOfPoint (lb0_impl_LineOfPoint env) [Sl.enc q, iv y, y2, y3, .top, .top, .top, .top, y8, y9, y10, Sl.enc q, iv ((q.getD []).length : Nat), iv (i : Nat), .top, .top, .top, .top, .top, .top, .top, .top, .top, .top, .top, .top, .top, .top, .top, .top, .top, .top, .top, .top, .top, .top, .top, .top, .top, .top, .top, .top, .top, .top, .top, y45, y46, y47, y48, y49, y50, y51, y52, y53, y54, y55, y56, y57, y58, y59, y60, y61, y62, y63, y64, y65, y66, y67, y68, y69, y70, y71, y72, y73, y74, y75, y76, y77, y78, y79] h) fun r => lk0_impl_LineOfPoint env r.1 r.2.1 r.2.2).map Prod.fst) _ _ (fun i h hi => ?_) (fun h => ?_) h
  · have I := Ix.mk' hi (fit_max hq)
    obtain ⟨a, ha⟩ : ∃ a, (q.getD [])[i]'I.lt = a := ⟨_, rfl⟩
    refine ⟨h ++ [⟨3, [Row.cells a]⟩], ?_⟩
    rw [loopP.eq_1]
    cases h1 : within a.top 0 a.bottom
    · simp [e_lb0_impl_LineOfPoint, T.len, T.idx, T.load, T.fld, I.idx, I.lt, ha, cut, I.wr, he, aBox, aStore, splice, load_end, restr, e_lk0r_impl_LineOfPoint, h1, badLine]
    · by_cases h2 : 4095 < a.bottom
      · simp [e_lb0_impl_LineOfPoint, T.len, T.idx, T.load, T.fld, I.idx, I.lt, ha, cut, I.wr, he, aBox, aStore, splice, load_end, restr, e_lk0r_impl_LineOfPoint, h1, h2, badLine]
      · by_cases h3 : 0 < i
        · obtain ⟨p1, p2, p3⟩ := ix_prev I.lt (fit_max hq) h3
          obtain ⟨b, hb⟩ : ∃ b, (q.getD [])[i - 1]'p3 = b := ⟨_, rfl⟩
          by_cases h4 : a.top ≤ b.bottom <;> simp [e_lb0_impl_LineOfPoint, T.len, T.idx, T.load, T.fld, I.idx, I.lt, ha, cut, I.wr, he, aBox, aStore, splice, load_end, restr, e_lk0r_impl_LineOfPoint, h1, h2, h3, p1, p2, p3, hb, h4, badLine]
        · simp [e_lb0_impl_LineOfPoint, T.len, T.idx, T.load, T.fld, I.idx, I.lt, ha, cut, I.wr, he, aBox, aStore, splice, load_end, restr, e_lk0r_impl_LineOfPoint, h1, h2, h3, badLine]
  · rw [loopP.eq_1]
    cases h1 : within y 0 4095
    · simp [e_lb0_impl_LineOfPoint, T.len, restr, e_lk0x0_impl_LineOfPoint, hf, h1]
    · by_cases h2 : (q.getD []).length = 0
      · simp [e_lb0_impl_LineOfPoint, T.len, restr, e_lk0x0_impl_LineOfPoint, hf, h1, h2]
      · have L := fun {y2 y3 y4 y5 y6 y7 y11 y12 y13 y14 y15 y16 y17 y18 y19 y20 y21 y22 y23 y24 y25 y26 y27 y28 y29 y30 y31 y32 y33 y34 y35 y36 y37 y38 y39 y40 y41 y42 y43 y44 y45 y46 y47 y48 y49 y50 y79} h => @lp1_impl_LineOfPoint env he hf hg q hq y y2 y3 y4 y5 y6 y7 y11 y12 y13 y14 y15 y16 y17 y18 y19 y20 y21 y22 y23 y24 y25 y26 y27 y28 y29 y30 y31 y32 y33 y34 y35 y36 y37 y38 y39 y40 y41 y42 y43 y44 y45 y46 y47 y48 y49 y50 y79 (by omega) h
        simp at L
        have hfold : (List.range' 0 (q.getD []).length).foldl (nearer (q.getD []) y) 0 = (List.range' 1 ((q.getD []).length - 1)).foldl (nearer (q.getD []) y) 0 := by
          obtain ⟨m, hm⟩ : ∃ m, (q.getD []).length = m + 1 := ⟨(q.getD []).length - 1, by omega⟩
          rw [hm]
          simp [List.range'_succ, nearer]
        try simp only [hfold] at L
        simp [e_lb0_impl_LineOfPoint, T.len, restr, e_lk0x0_impl_LineOfPoint, hf, h1, h2]
        exact L h
theorem ok_impl_LineOfPoint : PureOK Try.prog n_impl_LineOfPoint (G2 (fun (q : Sl Line) (_ : Int) => fit q) fun q y => enc (lineOfPoint (q.getD []) y)) :=
  pureG2 (E3 ok_impl_within ok_impl_isCoord ok_impl_beyond) mixed hb_impl_LineOfPoint fun q y hq => by
  refine plain_of (CodR.plain (lineOfPoint (q.getD []) y)) ?_
  have T := lookT q (w := 3) rfl
  have L := fun env he hf hg {y2 y3 y8 y9 y10 y45 y46 y47 y48 y49 y50 y51 y52 y53 y54 y55 y56 y57 y58 y59 y60 y61 y62 y63 y64 y65 y66 y67 y68 y69 y70 y71 y72 y73 y74 y75 y76 y77 y78 y79} h => @lp0_impl_LineOfPoint env he hf hg q hq y y2 y3 y8 y9 y10 y45 y46 y47 y48 y49 y50 y51 y52 y53 y54 y55 y56 y57 y58 y59 y60 y61 y62 y63 y64 y65 y66 y67 y68 y69 y70 y71 y72 y73 y74 y75 y76 y77 y78 y79 h
  simp at L
  simp [e_impl_LineOfPoint, T.len, L, envL]

theorem lp1_spec_LineOfPoint (env : Nat → Contract) (he : env n_spec_l00In = .pure (T3 within)) (hg : env n_spec_l19Away = .pure (G2 (fun (p : Pt Line) (_ : Int) => decide (p.i < p.tab.length)) fun p y => iv (awayAt p.tab p.i y))) (q : Sl Line) (hq : fit q = true) (y : Int) {y2 y3 y4 y5 y6 y9 y10 y11 y12 y13 y14 y15 y16 y17 y18 y19 y20 y21 y22 y23 y24 y25 y26 y27 y28 y29 y30 y31 y32 y33 y34 y35 y36 y37 y38 y39 y40 y41 y42 y43 y44 y45 y46 y47 y48 y49 y50 y51 y52 y53 y54 y55 y56 y57 y58 y77 : AV} (h0 : 0 < (q.getD []).length) (h : Heap) :
    ((fun (b i : Nat) (h : Heap) => (obind (loopP hm1_spec_LineOfPoint xm1_spec_LineOfPoint (lb1_spec_LineOfPoint env) [Sl.enc q, iv y, y2, y3, y4, y5, y6, iv (b : Nat), iv (i : Nat), y9, y10, y11, y12, y13, y14, y15, y16, y17, y18, y19, y20, y21, y22, y23, y24, y25, y26, y27, y28, y29, y30, y31, y32, y33, y34, y35, y36, y37, y38, y39, y40, y41, y42, y43, y44, y45, y46, y47, y48, y49, y50, y51, y52, y53, y54, y55, y56, y57, y58, .top, .top, .top, .top, .top, .top, .top, .top, .top, .top, .top, .top, .top, .top, .top, .top, .top, .top, y77] h) fun r => lk1_spec_LineOfPoint env r.1 r.2.1 r.2.2).map Prod.fst) 0 1 h) = some (.tup [iv (((List.range' 1 ((q.getD []).length - 1)).foldl (nearer (q.getD []) y) 0 : Nat) : Int), iv 0]) := by
  have T := lookT q (w := 3) rfl
  refine loop_fold (q.getD []).length 1 (by omega) (fun b _ => b < (q.getD []).length) (nearer (q.getD []) y) (fun (b i : Nat) (h : Heap) => (obind (loopP hm1_spec_LineOfPoint xm1_spec_LineOfPoint (lb1_spec_LineOfPoint env) [Sl.enc q, iv y, y2, y3, y4, y5, y6, iv (b : Nat), iv (i : Nat), y9, y10, y11, y12, y13, y14, y15, y16, y17, y18, y19, y20, y21, y22, y23, y24, y25, y26, y27, y28, y29, y30, y31, y32, y33, y34, y35, y36, y37, y38, y39, y40, y41, y42, y43, y44, y45, y46, y47, y48, y49, y50, y51, y52, y53, y54, y55, y56, y57, y58, .top, .top, .top, .top, .top, .top, .top, .top, .top, .top, .top, .top, .top, .top, .top, .top, .top, .top, y77] h) fun r => lk1_spec_LineOfPoint env r.1 r.2.1 r.2.2).map Prod.fst) (fun b => .tup [iv (b : Int), iv 0])
    (fun b i h _ hi hb => ⟨by unfold nearer; cases decide (awayAt (q.getD []) i y < awayAt (q.getD []) b y) <;> simp [hi, hb], ?_⟩) (fun b h hb => ?_) 0 h h0
  · have I := Ix.mk' hi (fit_max hq)
    have J : idx (iv (b : Int)) (q.getD []).length = some b := idx_lt hb
    rw [loopP.eq_1]
    have p1 := snapD_elp h q hi
    have p2 := snapD_elp h q hb
    refine ⟨h, ?_⟩
    by_cases h4 : awayAt (q.getD []) i y < awayAt (q.getD []) b y <;>
      simp [e_lb1_spec_LineOfPoint, T.len, T.idx, I.idx, I.lt, J, hb, I.wr, hg, p1, p2, restr, nearer, h4]
  · rw [loopP.eq_1]
    simp [e_lb1_spec_LineOfPoint, T.len, restr, e_lk1x2_spec_LineOfPoint]
theorem lp0_spec_LineOfPoint (env : Nat → Contract) (he : env n_spec_l00In = .pure (T3 within)) (hg : env n_spec_l19Away = .pure (G2 (fun (p : Pt Line) (_ : Int) => decide (p.i < p.tab.length)) fun p y => iv (awayAt p.tab p.i y))) (q : Sl Line) (hq : fit q = true) (y : Int) {y2 y3 y7 y8 y53 y54 y55 y56 y57 y58 y59 y60 y61 y62 y63 y64 y65 y66 y67 y68 y69 y70 y71 y72 y73 y74 y75 y76 y77 : AV} (h : Heap) :
    ((fun (i : Nat) (h : Heap) => (obind (loopP hm0_spec_LineOfPoint xm0_spec_LineOfPoint (lb0_spec_LineOfPoint env) [Sl.enc q, iv y, y2, y3, .top, .top, iv (i : Nat), y7, y8, .top, .top, .top, .top, .top, .top, .top, .top, .top, .top, .top, .top, .top, .top, .top, .top, .top, .top, .top, .top, .top, .top, .top, .top, .top, .top, .top, .top, .top, .top, .top, .top, .top, .top, .top, .top, .top, .top, .top, .top, .top, .top, .top, .top, y53, y54, y55, y56, y57, y58, y59, y60, y61, y62, y63, y64, y65, y66, y67, y68, y69, y70, y71, y72, y73, y74, y75, y76, y77] h) fun r => lk0_spec_LineOfPoint env r.1 r.2.1 r.2.2).map Prod.fst) 0 h) = some (enc (lineOfPoint (q.getD []) y)) := by
  have T := lookT q (w := 3) rfl
  have e : enc (lineOfPoint (q.getD []) y) = bif (List.range (q.getD []).length).any (badLine (q.getD [])) then .tup [iv 0, iv 1] else enc (bif !within y 0 4095 then ((0 : Int), (2 : Int)) else bif decide ((q.getD []).length = 0) then (0, 3) else (((List.range' 1 ((q.getD []).length - 1)).foldl (nearer (q.getD []) y) 0 : Nat), 0)) := by
    unfold lineOfPoint
    cases (List.range (q.getD []).length).any (badLine (q.getD [])) <;> simp
  rw [e]
  refine loop_any (q.getD []).length (badLine (q.getD [])) (fun (i : Nat) (h : Heap) => (obind (loopP hm0_spec_LineOfPoint xm0_spec_LineOfPoint (lb0_spec_LineOfPoint env) [Sl.enc q, iv y, y2, y3, .top, .top, iv (i : Nat), y7, y8, .top, .top, .top, .top, .top, .top, .top, .top, .top, .top, .top, .top, .top, .top, .top, .top, .top, .top, .top, .top, .top, .top, .top, .top, .top, .top, .top, .top, .top, .top, .top, .top, .top, .top, .top, .top, .top, .top, .top, .top, .top, .top, .top, .top, y53, y54, y55, y56, y57, y58, y59, y60, y61, y62, y63, y64, y65, y66, y67, y68, y69, y70, y71, y72, y73, y74, y75, y76, y77] h) fun r => lk0_spec_LineOfPoint env r.1 r.2.1 r.2.2).map Prod.fst) _ _ (fun i h hi => ?_) (fun h => ?_) h
  · have I := Ix.mk' hi (fit_max hq)
    obtain ⟨a, ha⟩ : ∃ a, (q.getD [])[i]'I.lt = a := ⟨_, rfl⟩
    refine ⟨h, ?_⟩
    rw [loopP.eq_1]
    cases h1 : within a.top 0 a.bottom
    · simp [e_lb0_spec_LineOfPoint, T.len, T.idx, T.load, T.fld, I.idx, I.lt, ha, cut, I.wr, he, aBox, aStore, splice, load_end, restr, e_lk0r_spec_LineOfPoint, h1, badLine]
    · by_cases h2 : 4095 < a.bottom
      · simp [e_lb0_spec_LineOfPoint, T.len, T.idx, T.load, T.fld, I.idx, I.lt, ha, cut, I.wr, he, aBox, aStore, splice, load_end, restr, e_lk0r_spec_LineOfPoint, h1, h2, badLine]
      · by_cases h3 : 0 < i
        · obtain ⟨p1, p2, p3⟩ := ix_prev I.lt (fit_max hq) h3
          obtain ⟨b, hb⟩ : ∃ b, (q.getD [])[i - 1]'p3 = b := ⟨_, rfl⟩
          by_cases h4 : a.top ≤ b.bottom <;> simp [e_lb0_spec_LineOfPoint, T.len, T.idx, T.load, T.fld, I.idx, I.lt, ha, cut, I.wr, he, aBox, aStore, splice, load_end, restr, e_lk0r_spec_LineOfPoint, h1, h2, h3, p1, p2, p3, hb, h4, badLine]
        · simp [e_lb0_spec_LineOfPoint, T.len, T.idx, T.load, T.fld, I.idx, I.lt, ha, cut, I.wr, he, aBox, aStore, splice, load_end, restr, e_lk0r_spec_LineOfPoint, h1, h2, h3, badLine]
  · rw [loopP.eq_1]
    cases h1 : within y 0 4095
    · simp [e_lb0_spec_LineOfPoint, T.len, restr, e_lk0x0_spec_LineOfPoint, he, h1]
    · by_cases h2 : (q.getD []).length = 0
      · simp [e_lb0_spec_LineOfPoint, T.len, restr, e_lk0x0_spec_LineOfPoint, he, h1, h2]
      · have L := fun {y2 y3 y4 y5 y6 y9 y10 y11 y12 y13 y14 y15 y16 y17 y18 y19 y20 y21 y22 y23 y24 y25 y26 y27 y28 y29 y30 y31 y32 y33 y34 y35 y36 y37 y38 y39 y40 y41 y42 y43 y44 y45 y46 y47 y48 y49 y50 y51 y52 y53 y54 y55 y56 y57 y58 y77} h => @lp1_spec_LineOfPoint env he hg q hq y y2 y3 y4 y5 y6 y9 y10 y11 y12 y13 y14 y15 y16 y17 y18 y19 y20 y21 y22 y23 y24 y25 y26 y27 y28 y29 y30 y31 y32 y33 y34 y35 y36 y37 y38 y39 y40 y41 y42 y43 y44 y45 y46 y47 y48 y49 y50 y51 y52 y53 y54 y55 y56 y57 y58 y77 (by omega) h
        simp at L
        have hfold : (List.range' 0 (q.getD []).length).foldl (nearer (q.getD []) y) 0 = (List.range' 1 ((q.getD []).length - 1)).foldl (nearer (q.getD []) y) 0 := by
          obtain ⟨m, hm⟩ : ∃ m, (q.getD []).length = m + 1 := ⟨(q.getD []).length - 1, by omega⟩
          rw [hm]
          simp [List.range'_succ, nearer]
        try simp only [hfold] at L
        simp [e_lb0_spec_LineOfPoint, T.len, restr, e_lk0x0_spec_LineOfPoint, he, h1, h2]
        exact L h
theorem ok_spec_LineOfPoint : PureOK Try.prog n_spec_LineOfPoint (G2 (fun (q : Sl Line) (_ : Int) => fit q) fun q y => enc (lineOfPoint (q.getD []) y)) :=
  pureG2 (E2 ok_spec_l00In ok_spec_l19Away) mixed hb_spec_LineOfPoint fun q y hq => by
  refine plain_of (CodR.plain (lineOfPoint (q.getD []) y)) ?_
  have T := lookT q (w := 3) rfl
  have L := fun env he hg {y2 y3 y7 y8 y53 y54 y55 y56 y57 y58 y59 y60 y61 y62 y63 y64 y65 y66 y67 y68 y69 y70 y71 y72 y73 y74 y75 y76 y77} h => @lp0_spec_LineOfPoint env he hg q hq y y2 y3 y7 y8 y53 y54 y55 y56 y57 y58 y59 y60 y61 y62 y63 y64 y65 y66 y67 y68 y69 y70 y71 y72 y73 y74 y75 y76 y77 h
  simp at L
  simp [e_spec_LineOfPoint, T.len, L, envL]

theorem ok_laws_FnExactLineOfPoint : PureOK Try.prog n_laws_FnExactLineOfPoint (G2 (fun (a : Sl Line) (_ : Int) => Wt.big a) fun _ _ => bv true) :=
  pureG2 (E5 ok_laws_szLineS ok_laws_toLineS ok_spec_LineOfPoint ok_impl_LineOfPoint ok_laws_eqLineS) mixed hb_laws_FnExactLineOfPoint fun a b h => by
  have s1 : szOK a 1048576 = true := by simp [szOK, h]
  by_cases h1 : (1048576 : Int) < (Wt.wt a : Nat)
  · simp [e_laws_FnExactLineOfPoint, envL, s1, szR_lt h1]
  · have r1 : ¬ (1048576 : Int) - (Wt.wt a : Nat) < 0 := by omega
    have f1 : fit a = true := fit_wt h1 (by decide)
    simp [e_laws_FnExactLineOfPoint, envL, s1, szR_ge h1, r1, f1, hand_nws, snapD_nws, fit_norm f1, eqL_self sameLine_self]
theorem law_FnExactLineOfPoint (a : Sl Line) (b : Int) (ha : Row.fine a) (_ : Row.fine b) : G2 (fun (a : Sl Line) (_ : Int) => Wt.big a) (fun _ _ => bv true) [enc a, enc b] = some (bv true) := G2_enc _ _ a b (Wt.fb a ha)

theorem isC_2 {cs : List AV} (h : IsC Try.prog 2 cs) : ∃ x : Int, cs = Row.cells x ∧ Row.fine x := by
  obtain ⟨n, rfl, hn⟩ := IsC.intE Try.underlying2 h
  exact ⟨n, rfl, fine_int hn⟩
theorem isC_57 {cs : List AV} (h : IsC Try.prog 57 cs) : ∃ x : (Sl Int), cs = Row.cells x ∧ Row.fine x := by
  rcases IsC.sliceE Try.underlying57 h with rfl | ⟨rows, rfl, h1, h2⟩
  · exact ⟨none, rfl, Sl.fineNil⟩
  · exact Sl.isC (by kernel_rfl) h1 fun row hr => isC_2 (h2 row hr)
theorem isC_86 {cs : List AV} (h : IsC Try.prog 86 cs) : ∃ x : Line, cs = Row.cells x ∧ Row.fine x := by
  replace h := IsC.structE Try.underlying86 h
  obtain ⟨c0, r0, rfl, q0, k0⟩ := IsFs.consE h
  obtain ⟨c1, r1, rfl, q1, k1⟩ := IsFs.consE k0
  obtain ⟨c2, r2, rfl, q2, k2⟩ := IsFs.consE k1
  cases IsFs.nilE k2
  obtain ⟨v0, rfl, w0⟩ := isC_2 q0
  obtain ⟨v1, rfl, w1⟩ := isC_2 q1
  obtain ⟨v2, rfl, w2⟩ := isC_57 q2
  exact ⟨⟨v0, v1, v2⟩, rfl, w0, w1, w2⟩
theorem isC_46 {cs : List AV} (h : IsC Try.prog 46 cs) : ∃ x : (Sl Line), cs = Row.cells x ∧ Row.fine x := by
  rcases IsC.sliceE Try.underlying46 h with rfl | ⟨rows, rfl, h1, h2⟩
  · exact ⟨none, rfl, Sl.fineNil⟩
  · exact Sl.isC (by kernel_rfl) h1 fun row hr => isC_86 (h2 row hr)
theorem own : ownKnob Try.prog.godebug = none := by kernel_rfl
theorem laidOut : laidOutB Try.prog = true := by kernel_rfl

set_option maxRecDepth 100000 in
theorem holds : Rows.FnExactLineOfPointSaid :=
  OpenClaim.holds_of_wide 6 Try.f6 rfl rfl rfl rfl rfl rfl rfl ⟨rfl, rfl, rfl, rfl, rfl⟩ rfl rfl rfl rfl rfl (by kernel_rfl) Try.func6 (by kernel_rfl)
    (of_decide_eq_true (by kernel_rfl)) (by unfold Func.isWrapper; rw [if_neg (by decide +kernel)]; exact ⟨rfl, rfl⟩)
    (fun os started H enc _ => law_lifted (C := Try.checked) (s := Rows.fnExactLineOfPointSpec) own started (by kernel_rfl) Try.func6
      (ChangeSpec.witness6 (enc := enc) (C := Try.checked) false ⟨#[], #[.slice none 0 0, .int .i64 0], []⟩ 8 (by kernel_rfl) (by kernel_rfl) (by kernel_rfl) (by kernel_rfl))
      laidOut rfl (tb := 4) rfl Try.underlying4 (ts := [46, 86, 2, 57]) (by kernel_rfl)
      (fun ds h => by match ds, h with | [d0, d1], _ => rfl)
      hb_laws_FnExactLineOfPoint ok_laws_FnExactLineOfPoint (by
    intro l h
    obtain ⟨a0, l0, rfl, g0, k0⟩ := h
    obtain ⟨a1, l1, rfl, g1, k1⟩ := k0
    cases k1
    obtain ⟨b0, e0, w0⟩ := isC_46 (isV_one (by kernel_rfl) g0)
    obtain rfl := one_enc e0
    obtain ⟨b1, e1, w1⟩ := isC_2 (isV_one (by kernel_rfl) g1)
    obtain rfl := one_enc e1
    exact law_FnExactLineOfPoint b0 b1 w0 w1))
#print axioms holds
end Go.Proofs.Ytfladjnggkeiaaa
