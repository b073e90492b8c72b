/-
  The law FnExactBoxOfItems holds, for all arguments: it returns true, and its arguments read behind the call as before. No condition.
-/
import Derived.Test.YtfladjnggkeiaaaFnExactBoxOfItemsGen
import Derived.Test.YtfladjnggkeiaaaRows
namespace Go.Proofs.Ytfladjnggkeiaaa
open Go Go.Eng Go.Eng.Cod

theorem nil_ok : EnvOK Try.prog (envL []) := E0

def within (a b c : Int) : Bool := decide (b ≤ a) && decide (a ≤ c)

theorem ok_impl_within : PureOK Try.prog n_impl_within (T3 within) := pureT3 nil_ok mixed hb_impl_within fun a b c => by
  simp [e_impl_within, within]

theorem ok_spec_l00In : PureOK Try.prog n_spec_l00In (T3 within) := pureT3 nil_ok mixed hb_spec_l00In fun a b c => by
  simp [e_spec_l00In, within]

theorem ok_spec_l00Min : PureOK Try.prog n_spec_l00Min (T2 fun a b : Int => min a b) := pureT2 nil_ok mixed hb_spec_l00Min fun a b => by
  simp [e_spec_l00Min, minI]

theorem ok_spec_l00Max : PureOK Try.prog n_spec_l00Max (T2 fun a b : Int => max a b) := pureT2 nil_ok mixed hb_spec_l00Max fun a b => by
  simp [e_spec_l00Max, maxI]

def validBox (b : Box) : Bool := within b.x1 0 b.x2 && within b.y1 0 b.y2 && decide (b.x2 ≤ 4095) && decide (b.y2 ≤ 4095)

theorem ok_impl_ValidBox : PureOK Try.prog n_impl_ValidBox (T1 validBox) :=
  pureT1 (E1 ok_impl_within) mixed hb_impl_ValidBox fun b => by
  simp [e_impl_ValidBox, envL, aBox, aLoad, cut, validBox]

theorem ok_spec_l02Box : PureOK Try.prog n_spec_l02Box (T1 validBox) :=
  pureT1 (E1 ok_spec_l00In) mixed hb_spec_l02Box fun b => by
  simp [e_spec_l02Box, envL, aBox, aLoad, cut, validBox]

theorem ok_laws_toBox : PureOK Try.prog n_laws_toBox (T1 fun b : Box => b) := pureT1 nil_ok mixed hb_laws_toBox fun b => by
  simp [e_laws_toBox, aBox, aLoad, cut, aStore, splice, retL, resL, pack]

theorem ok_laws_eqBox : PureOK Try.prog n_laws_eqBox (T2 fun a b : Box => decide (a = b)) := pureT2 nil_ok mixed hb_laws_eqBox fun a b => by
  simp [e_laws_eqBox, aBox, aLoad, cut]
  obtain ⟨a1, a2, a3, a4⟩ := a
  obtain ⟨b1, b2, b3, b4⟩ := b
  simp

theorem lp_laws_toInt64S (env : Nat → Contract) (q : Sl Int) (hq : fit q = true) : obind (loopP hm0_laws_toInt64S xm0_laws_toInt64S (lb0_laws_toInt64S env) [Sl.enc q, und, nilS, .sl 0 (q.getD []).length 0 (q.getD []).length, iv 0, Sl.enc q, iv ((q.getD []).length : Nat), .sl 0 (q.getD []).length 0 (q.getD []).length, .top, .top, .top, .top, .top, .top, .top, .top, .top, .top, .top, .top, .top, und] [⟨1, List.replicate (q.getD []).length [(iv 0)]⟩]) (fun r => lk0_laws_toInt64S env r.1 r.2.1 r.2.2) = some (.sl 0 (q.getD []).length 0 (q.getD []).length, mt (nws q) 0) := by
  have T := lookT q (w := 1) rfl
  have L := loop_fill (A := Int) (by decide) (q.getD []) (hm := hm0_laws_toInt64S) (xm := xm0_laws_toInt64S) (body := lb0_laws_toInt64S env) (K := fun r => lk0_laws_toInt64S env r.1 r.2.1 r.2.2) [(iv 0)] (fun i => [Sl.enc q, und, nilS, .sl 0 (q.getD []).length 0 (q.getD []).length, iv (i : Int), Sl.enc q, iv ((q.getD []).length : Nat), .sl 0 (q.getD []).length 0 (q.getD []).length, .top, .top, .top, .top, .top, .top, .top, .top, .top, .top, .top, .top, .top, und]) (by
    intro pre a suf rows objs hl hr
    have S := Stp.mk' hl (fit_max hq)
    have hn : pre.length + 1 + suf.length = (q.getD []).length := by rw [hl]; simp; omega
    have hfit : fit a = true := fit_mem hq (by rw [hl]; simp)
    have fa := fun objs => fill_addr (w := 1) (rows := rows) (objs := objs) (z := [(iv 0)]) hr hn
    have fs := fun objs v => fill_store (w := 1) (rows := rows) (objs := objs) (z := [(iv 0)]) (v := v) hr hn rfl
    rw [loopP.eq_1]
    simp [e_lb0_laws_toInt64S, T.len, T.idx, T.load, S.idx, S.lt, S.elt, cut, S.wr, fa]
    rw [fs _ _ rfl (by simp)]
    simp [restr])
  simp at L
  rw [L, loopP.eq_1]
  simp [e_lb0_laws_toInt64S, T.len, restr, e_lk0x0_laws_toInt64S]
  rfl
theorem ok_laws_toInt64S : PureOK Try.prog n_laws_toInt64S (G1 (fun q : Sl Int => fit q) nws) :=
  pureG1 E0 mixed hb_laws_toInt64S fun q hq => by
  have T := lookT q (w := 1) rfl
  have M := make_ok (bytes := 8) [(iv 0)] [] (fit_len hq) (by decide)
  simp at M
  have L := fun env => lp_laws_toInt64S env q hq
  simp [e_laws_toInt64S, T.len, M, L]
  exact release_nws (by decide) q

theorem lp_laws_eqInt64S (env : Nat → Contract) (q p : Sl Int) (hq : fit q = true) (hl : (q.getD []).length = (p.getD []).length) : obind (loopP hm0_laws_eqInt64S xm0_laws_eqInt64S (lb0_laws_eqInt64S env) [Sl.enc q, Sl.enc p, und, und, .top, iv 0, Sl.enc q, iv ((q.getD []).length : Nat), Sl.enc p, iv ((p.getD []).length : Nat), bv false, .top, .top, .top, .top, .top, .top, .top, .top, .top, .top, .top, .top, .top, .top, .top] []) (fun r => lk0_laws_eqInt64S env r.1 r.2.1 r.2.2) = some (bif decide (q.getD [] = p.getD []) then (bv true, []) else (bv false, [])) := by
  have T := lookT q (w := 1) rfl
  have U := lookT p (w := 1) rfl
  have L := loop_eq (A := Int) hl (fit_max hq) (hmk := hm0_laws_eqInt64S) (xm := xm0_laws_eqInt64S) (body := lb0_laws_eqInt64S env) (K := fun r => lk0_laws_eqInt64S env r.1 r.2.1 r.2.2) [] (fun i => [Sl.enc q, Sl.enc p, und, und, .top, iv (i : Int), Sl.enc q, iv ((q.getD []).length : Nat), Sl.enc p, iv ((p.getD []).length : Nat), bv false, .top, .top, .top, .top, .top, .top, .top, .top, .top, .top, .top, .top, .top, .top, .top]) (bv true, []) (bv false, [])
    (by
      intro pre x y S h1 h2 h3
      have h4 : (p.getD [])[pre.length] = y := by simpa [h3] using h2
      rw [loopP.eq_1]
      simp [e_lb0_laws_eqInt64S, T.len, T.idx, T.load, U.idx, U.load, S.idx, S.lt, S.elt, h1, h3, h4, cut, S.wr]
      cases decide (x = y) <;> simp [restr, e_lk0r_laws_eqInt64S])
    (by
      rw [loopP.eq_1]
      simp [e_lb0_laws_eqInt64S, T.len, restr, e_lk0x0_laws_eqInt64S])
  simpa using L
theorem ok_laws_eqInt64S : PureOK Try.prog n_laws_eqInt64S (G2 (fun q _ : Sl Int => fit q) fun q p => bv (decide (q.getD [] = p.getD []))) :=
  pureG2 E0 mixed hb_laws_eqInt64S fun q p hq => by
  have T := lookT q (w := 1) rfl
  have U := lookT p (w := 1) rfl
  by_cases hl : (q.getD []).length = (p.getD []).length
  · have L := fun env => lp_laws_eqInt64S env q p hq hl
    simp [e_laws_eqInt64S, T.len, U.len, hl] at L ⊢
    simp [L]
  · have h2 : ¬ q.getD [] = p.getD [] := fun e => hl (by rw [e])
    have h3 : ¬ ((q.getD []).length : Int) = (p.getD []).length := by omega
    simp [e_laws_eqInt64S, T.len, U.len, h3, h2]

theorem ok_laws_szBoxS : PureOK Try.prog n_laws_szBoxS (G2 (fun (q : Sl Box) left => szOK q left) fun q left => iv (szR left (Wt.wt q))) :=
  pureG2 E0 mixed hb_laws_szBoxS fun q left h => by
  have T := lookT q (w := 4) rfl
  obtain ⟨h1, h2, h3⟩ := (szOK_iff q left).1 h
  have h4 := sz_len h2 h3 (big_len h1)
  rw [wt_zero (fun _ => rfl) q]
  by_cases hl : left < ((q.getD []).length : Nat)
  · have : left - ((q.getD []).length : Nat) < 0 := by omega
    simp [e_laws_szBoxS, T.len, h4, this, szR_lt hl]
  · have : ¬ left - ((q.getD []).length : Nat) < 0 := by omega
    simp [e_laws_szBoxS, T.len, h4, this, szR_ge hl]

theorem lp_laws_toBoxS (env : Nat → Contract) (q : Sl Box) (hq : fit q = true) (he : env n_laws_toBox = .pure (T1 fun b : Box => b)) : obind (loopP hm0_laws_toBoxS xm0_laws_toBoxS (lb0_laws_toBoxS env) [Sl.enc q, und, nilS, .sl 0 (q.getD []).length 0 (q.getD []).length, iv 0, Sl.enc q, iv ((q.getD []).length : Nat), .sl 0 (q.getD []).length 0 (q.getD []).length, .top, .top, .top, .top, .top, .top, .top, .top, .top, .top, .top, .top, .top, .top, und] [⟨4, List.replicate (q.getD []).length [(iv 0), (iv 0), (iv 0), (iv 0)]⟩]) (fun r => lk0_laws_toBoxS env r.1 r.2.1 r.2.2) = some (.sl 0 (q.getD []).length 0 (q.getD []).length, mt (nws q) 0) := by
  have T := lookT q (w := 4) rfl
  have L := loop_fill (A := Box) (by decide) (q.getD []) (hm := hm0_laws_toBoxS) (xm := xm0_laws_toBoxS) (body := lb0_laws_toBoxS env) (K := fun r => lk0_laws_toBoxS env r.1 r.2.1 r.2.2) [(iv 0), (iv 0), (iv 0), (iv 0)] (fun i => [Sl.enc q, und, nilS, .sl 0 (q.getD []).length 0 (q.getD []).length, iv (i : Int), Sl.enc q, iv ((q.getD []).length : Nat), .sl 0 (q.getD []).length 0 (q.getD []).length, .top, .top, .top, .top, .top, .top, .top, .top, .top, .top, .top, .top, .top, .top, und]) (by
    intro pre a suf rows objs hl hr
    have S := Stp.mk' hl (fit_max hq)
    have hn : pre.length + 1 + suf.length = (q.getD []).length := by rw [hl]; simp; omega
    have hfit : fit a = true := fit_mem hq (by rw [hl]; simp)
    have fa := fun objs => fill_addr (w := 4) (rows := rows) (objs := objs) (z := [(iv 0), (iv 0), (iv 0), (iv 0)]) hr hn
    have fs := fun objs v => fill_store (w := 4) (rows := rows) (objs := objs) (z := [(iv 0), (iv 0), (iv 0), (iv 0)]) (v := v) hr hn rfl
    rw [loopP.eq_1]
    simp [e_lb0_laws_toBoxS, T.len, T.idx, T.load, S.idx, S.lt, S.elt, cut, S.wr, fa, he]
    rw [fs _ _ rfl (by simp)]
    simp [restr])
  simp at L
  rw [L, loopP.eq_1]
  simp [e_lb0_laws_toBoxS, T.len, restr, e_lk0x0_laws_toBoxS]
  rfl
theorem ok_laws_toBoxS : PureOK Try.prog n_laws_toBoxS (G1 (fun q : Sl Box => fit q) nws) :=
  pureG1 (E1 ok_laws_toBox) mixed hb_laws_toBoxS fun q hq => by
  have T := lookT q (w := 4) rfl
  have M := make_ok (bytes := 32) [(iv 0), (iv 0), (iv 0), (iv 0)] [] (fit_len hq) (by decide)
  simp at M
  have L := fun env he => lp_laws_toBoxS env q hq he
  simp [e_laws_toBoxS, T.len, M, L, envL]
  exact release_nws (by decide) q

theorem lp_laws_eqBoxS (env : Nat → Contract) (q p : Sl Box) (hq : fit q = true) (hl : (q.getD []).length = (p.getD []).length) (he : env n_laws_eqBox = .pure (T2 fun a b : Box => decide (a = b))) : obind (loopP hm0_laws_eqBoxS xm0_laws_eqBoxS (lb0_laws_eqBoxS env) [Sl.enc q, Sl.enc p, und, und, .top, iv 0, Sl.enc q, iv ((q.getD []).length : Nat), Sl.enc p, iv ((p.getD []).length : Nat), bv false, .top, .top, .top, .top, .top, .top, .top, .top, .top, .top, .top, .top, .top, .top, .top, .top] []) (fun r => lk0_laws_eqBoxS env r.1 r.2.1 r.2.2) = some (bif decide (q.getD [] = p.getD []) then (bv true, []) else (bv false, [])) := by
  have T := lookT q (w := 4) rfl
  have U := lookT p (w := 4) rfl
  have L := loop_eq (A := Box) hl (fit_max hq) (hmk := hm0_laws_eqBoxS) (xm := xm0_laws_eqBoxS) (body := lb0_laws_eqBoxS env) (K := fun r => lk0_laws_eqBoxS env r.1 r.2.1 r.2.2) [] (fun i => [Sl.enc q, Sl.enc p, und, und, .top, iv (i : Int), Sl.enc q, iv ((q.getD []).length : Nat), Sl.enc p, iv ((p.getD []).length : Nat), bv false, .top, .top, .top, .top, .top, .top, .top, .top, .top, .top, .top, .top, .top, .top, .top, .top]) (bv true, []) (bv false, [])
    (by
      intro pre x y S h1 h2 h3
      have h4 : (p.getD [])[pre.length] = y := by simpa [h3] using h2
      rw [loopP.eq_1]
      simp [e_lb0_laws_eqBoxS, T.len, T.idx, T.load, U.idx, U.load, S.idx, S.lt, S.elt, h1, h3, h4, cut, S.wr, he]
      cases decide (x = y) <;> simp [restr, e_lk0r_laws_eqBoxS])
    (by
      rw [loopP.eq_1]
      simp [e_lb0_laws_eqBoxS, T.len, restr, e_lk0x0_laws_eqBoxS])
  simpa using L
theorem ok_laws_eqBoxS : PureOK Try.prog n_laws_eqBoxS (G2 (fun q _ : Sl Box => fit q) fun q p => bv (decide (q.getD [] = p.getD []))) :=
  pureG2 (E1 ok_laws_eqBox) mixed hb_laws_eqBoxS fun q p hq => by
  have T := lookT q (w := 4) rfl
  have U := lookT p (w := 4) rfl
  by_cases hl : (q.getD []).length = (p.getD []).length
  · have L := fun env he => lp_laws_eqBoxS env q p hq hl he
    simp [e_laws_eqBoxS, T.len, U.len, hl, envL] at L ⊢
    simp [L]
  · have h2 : ¬ q.getD [] = p.getD [] := fun e => hl (by rw [e])
    have h3 : ¬ ((q.getD []).length : Int) = (p.getD []).length := by omega
    simp [e_laws_eqBoxS, T.len, U.len, h3, h2]

theorem lp_slices_IndexFunc_impl_Box_impl_Box (env : Nat → Contract) (g : Nat) (p : Box → Bool) (he : env g = .pure (T1 p)) (q : Sl Box) (hq : fit q = true) : obind (loopP hm0_slices_IndexFunc_impl_Box_impl_Box xm0_slices_IndexFunc_impl_Box_impl_Box (lb0_slices_IndexFunc_impl_Box_impl_Box env) [Sl.enc q, .fn g [], und, und, .top, .top, Sl.enc q, iv ((q.getD []).length : Nat), iv 0, .top, .top, .top, .top, .top, .top, .top, .top, .top, .top] []) (fun r => lk0_slices_IndexFunc_impl_Box_impl_Box env r.1 r.2.1 r.2.2) = some (iv (findI p (q.getD []) 0), []) := by
  have T := lookT q (w := 4) rfl
  exact loop_over (q.getD []) (fit_max hq) (hmk := hm0_slices_IndexFunc_impl_Box_impl_Box) (xm := xm0_slices_IndexFunc_impl_Box_impl_Box) (body := lb0_slices_IndexFunc_impl_Box_impl_Box env) (K := fun r => lk0_slices_IndexFunc_impl_Box_impl_Box env r.1 r.2.1 r.2.2) (σ := Nat) (fun i _ => [Sl.enc q, .fn g [], und, und, .top, .top, Sl.enc q, iv ((q.getD []).length : Nat), iv (i : Int), .top, .top, .top, .top, .top, .top, .top, .top, .top, .top]) (fun _ => [])
    (fun i suf => i + suf.length = (q.getD []).length) (fun i suf => some (iv (findI p suf i), []))
    (fun pre x suf i hl hi S => by
      have hp : pre.length = i := by
        have := congrArg List.length hl
        simp at this hi
        omega
      subst hp
      cases hx : p x
      · right
        refine ⟨pre.length + 1, by simpa [Nat.add_assoc, Nat.add_comm 1] using hi, ?_, by simp [findI, hx]⟩
        rw [loopP.eq_1]
        simp [e_lb0_slices_IndexFunc_impl_Box_impl_Box, T.len, T.idx, T.load, S.idx, S.lt, S.elt, cut, S.wr, he, hx, restr]
      · left
        rw [loopP.eq_1]
        simp [e_lb0_slices_IndexFunc_impl_Box_impl_Box, T.len, T.idx, T.load, S.idx, S.lt, S.elt, cut, S.wr, he, hx, restr, e_lk0r_slices_IndexFunc_impl_Box_impl_Box, findI])
    (fun i hi => by
      have hp : i = (q.getD []).length := by simpa using hi
      subst hp
      rw [loopP.eq_1]
      simp [e_lb0_slices_IndexFunc_impl_Box_impl_Box, T.len, restr, e_lk0x0_slices_IndexFunc_impl_Box_impl_Box, findI]) 0 (by simp)
theorem ok_slices_IndexFunc_impl_Box_impl_Box {g : Nat} {p : Box → Bool} (hg : PureOK Try.prog g (T1 p)) : PureOK Try.prog n_slices_IndexFunc_impl_Box_impl_Box (G2 (fun (q : Sl Box) (_ : Clo0 g) => fit q) fun q _ => iv (findI p (q.getD []) 0)) :=
  pureG2 (E1 hg) mixed hb_slices_IndexFunc_impl_Box_impl_Box fun q _ hq => by
  have T := lookT q (w := 4) rfl
  have L := fun env he => lp_slices_IndexFunc_impl_Box_impl_Box env g p he q hq
  simp [e_slices_IndexFunc_impl_Box_impl_Box, T.len, L, envL]

theorem lp_slices_IndexFunc_int64_int64 {A : Type} [Row A] (env : Nat → Contract) (g : Nat) (okc : Ref (Sl A) → Bool) (p : Ref (Sl A) → Int → Bool) (c : Ref (Sl A)) (hc : okc c = true) (he : env g = .pure (G2 (fun (_ : Int) c => okc c) fun a c => bv (p c a))) (hsn : ∀ h, snapD h (enc c) = some c) (q : Sl Int) (hq : fit q = true) : obind (loopP hm0_slices_IndexFunc_int64_int64 xm0_slices_IndexFunc_int64_int64 (lb0_slices_IndexFunc_int64_int64 env) [Sl.enc q, .fn g [enc c], und, und, .top, .top, Sl.enc q, iv ((q.getD []).length : Nat), iv 0, .top, .top, .top, .top, .top, .top, .top, .top, .top, .top] []) (fun r => lk0_slices_IndexFunc_int64_int64 env r.1 r.2.1 r.2.2) = some (iv (findI (p c) (q.getD []) 0), []) := by
  have T := lookT q (w := 1) rfl
  simp at hsn
  exact loop_over (q.getD []) (fit_max hq) (hmk := hm0_slices_IndexFunc_int64_int64) (xm := xm0_slices_IndexFunc_int64_int64) (body := lb0_slices_IndexFunc_int64_int64 env) (K := fun r => lk0_slices_IndexFunc_int64_int64 env r.1 r.2.1 r.2.2) (σ := Nat) (fun i _ => [Sl.enc q, .fn g [enc c], und, und, .top, .top, Sl.enc q, iv ((q.getD []).length : Nat), iv (i : Int), .top, .top, .top, .top, .top, .top, .top, .top, .top, .top]) (fun _ => [])
    (fun i suf => i + suf.length = (q.getD []).length) (fun i suf => some (iv (findI (p c) suf i), []))
    (fun pre x suf i hl hi S => by
      have hp : pre.length = i := by
        have := congrArg List.length hl
        simp at this hi
        omega
      subst hp
      cases hx : (p c) x
      · right
        refine ⟨pre.length + 1, by simpa [Nat.add_assoc, Nat.add_comm 1] using hi, ?_, by simp [findI, hx]⟩
        rw [loopP.eq_1]
        simp [e_lb0_slices_IndexFunc_int64_int64, T.len, T.idx, T.load, S.idx, S.lt, S.elt, cut, S.wr, he, hsn, hc, hx, restr]
      · left
        rw [loopP.eq_1]
        simp [e_lb0_slices_IndexFunc_int64_int64, T.len, T.idx, T.load, S.idx, S.lt, S.elt, cut, S.wr, he, hsn, hc, hx, restr, e_lk0r_slices_IndexFunc_int64_int64, findI])
    (fun i hi => by
      have hp : i = (q.getD []).length := by simpa using hi
      subst hp
      rw [loopP.eq_1]
      simp [e_lb0_slices_IndexFunc_int64_int64, T.len, restr, e_lk0x0_slices_IndexFunc_int64_int64, findI]) 0 (by simp)
theorem ok_slices_IndexFunc_int64_int64 {A : Type} [Row A] {g : Nat} {okc : Ref (Sl A) → Bool} {p : Ref (Sl A) → Int → Bool} (hsn : ∀ (c : Ref (Sl A)) h, snapD h (enc c) = some c) (hg : PureOK Try.prog g (G2 (fun (_ : Int) c => okc c) fun a c => bv (p c a))) : PureOK Try.prog n_slices_IndexFunc_int64_int64 (G2 (fun (q : Sl Int) (c : Clo g (Ref (Sl A))) => fit q && okc c.val) fun q c => iv (findI (p c.val) (q.getD []) 0)) :=
  pureG2 (E1 hg) mixed hb_slices_IndexFunc_int64_int64 fun q ⟨c⟩ hq => by
  simp at hq
  have T := lookT q (w := 1) rfl
  have L := fun env he => lp_slices_IndexFunc_int64_int64 env g okc p c hq.2 he (hsn c) q hq.1
  simp [e_slices_IndexFunc_int64_int64, T.len, envL] at L ⊢
  simp [L]

theorem ok_slices_ContainsFunc_impl_Box_impl_Box {g : Nat} {p : Box → Bool} (hg : PureOK Try.prog g (T1 p)) : PureOK Try.prog n_slices_ContainsFunc_impl_Box_impl_Box (G2 (fun (q : Sl Box) (_ : Clo0 g) => fit q) fun q _ => bv ((q.getD []).any p)) :=
  pureG2 (E1 (ok_slices_IndexFunc_impl_Box_impl_Box hg)) mixed hb_slices_ContainsFunc_impl_Box_impl_Box fun q _ hq => by
  simp [e_slices_ContainsFunc_impl_Box_impl_Box, envL, hq, findI_any]

theorem snap_refSl {A : Type} [Row A] (c : Ref (Sl A)) (h : Heap) : snapD h (enc c) = some c := Cod.de c
theorem ok_slices_ContainsFunc_int64_int64 {A : Type} [Row A] {g : Nat} {okc : Ref (Sl A) → Bool} {p : Ref (Sl A) → Int → Bool} (hg : PureOK Try.prog g (G2 (fun (_ : Int) c => okc c) fun a c => bv (p c a))) : PureOK Try.prog n_slices_ContainsFunc_int64_int64 (G2 (fun (q : Sl Int) (c : Clo g (Ref (Sl A))) => fit q && okc c.val) fun q c => bv ((q.getD []).any (p c.val))) :=
  pureG2 (E1 (ok_slices_IndexFunc_int64_int64 snap_refSl hg)) mixed hb_slices_ContainsFunc_int64_int64 fun q c hq => by
  have hc : ∀ h, snapD h (.fn g [enc c.val]) = some c := fun h => Cod.de c
  simp at hc hq
  simp [e_slices_ContainsFunc_int64_int64, envL, hc, hq, findI_any]

theorem ok_impl_isPage_1 : PureOK Try.prog n_impl_isPage_1 (T1 fun b : Box => !validBox b) := pureT1 (E1 ok_impl_ValidBox) mixed hb_impl_isPage_1 fun b => by
  simp [e_impl_isPage_1, envL, aBox, aLoad, cut]

def isPage (l : List Box) : Bool := decide (l.length ≤ 60) && l.all validBox
theorem not_any_not {A : Type} (p : A → Bool) (l : List A) : (!l.any fun a => !p a) = l.all p := by
  induction l with
  | nil => rfl
  | cons a l ih => simp [← ih]

theorem ok_impl_isPage : PureOK Try.prog n_impl_isPage (G1 (fun q : Sl Box => fit q) fun q => bv (isPage (q.getD []))) :=
  pureG1 (E1 (ok_slices_ContainsFunc_impl_Box_impl_Box ok_impl_isPage_1)) mixed hb_impl_isPage fun q hq => by
  have T := lookT q (w := 4) rfl
  have hn := not_any_not validBox (q.getD [])
  by_cases h : (q.getD []).length ≤ 60
  · have h' : ((q.getD []).length : Int) ≤ 60 := by omega
    simp [e_impl_isPage, envL, T.len, h', h, hq, isPage] at hn ⊢
    rw [hn, Bool.not_not]
  · have h' : ¬ ((q.getD []).length : Int) ≤ 60 := by omega
    simp [e_impl_isPage, envL, T.len, h', h, hq, isPage]

def isIdx (n : Int) (k : Int) : Bool := within k 0 (n - 1)
theorem ok_impl_areIndices_1 : PureOK Try.prog n_impl_areIndices_1 (G2 (fun (_ : Int) (c : Ref (Sl Box)) => fit c.val) fun k c => bv (!isIdx ((c.val.getD []).length : Nat) k)) :=
  pureG2 (E1 ok_impl_within) mixed hb_impl_areIndices_1 fun k ⟨q⟩ hq => by
  have T := lookT q (w := 4) rfl
  have hl := fit_len (q := q) hq
  have hw : wr (((q.getD []).length : Nat) - 1 : Int) = ((q.getD []).length : Nat) - 1 := wr_id (by omega) (by omega)
  simp [e_impl_areIndices_1, envL, aLoad, cut, T.len, hw, isIdx]

theorem ok_impl_areIndices : PureOK Try.prog n_impl_areIndices (G2 (fun (q : Sl Box) (p : Sl Int) => fit q && fit p) fun q p => bv ((p.getD []).all (isIdx ((q.getD []).length : Nat)))) :=
  pureG2 (E1 (ok_slices_ContainsFunc_int64_int64 ok_impl_areIndices_1)) mixed hb_impl_areIndices fun q p h => by
  simp at h
  have hc : snapD [⟨1, [[Sl.enc q]]⟩] (.fn n_impl_areIndices_1 [.ptr 0 1 0 0]) = some (⟨⟨q⟩⟩ : Clo n_impl_areIndices_1 (Ref (Sl Box))) := snapD_clo (⟨q⟩ : Ref (Sl Box)) (snap_ref7 (A := Sl Box) (row := [Sl.enc q]) q rfl (by simp [omap]))
  have hn := not_any_not (isIdx ((q.getD []).length : Nat)) (p.getD [])
  simp at hc
  simp [e_impl_areIndices, envL, aBox, hc, h] at hn ⊢
  rw [hn, Bool.not_not]

def joinBox (a b : Box) : Box := ⟨min a.x1 b.x1, min a.y1 b.y1, max a.x2 b.x2, max a.y2 b.y2⟩
theorem ok_impl_joinBoxes : PureOK Try.prog n_impl_joinBoxes (T2 joinBox) := pureT2 E0 mixed hb_impl_joinBoxes fun a b => by
  simp [e_impl_joinBoxes, aBox, aLoad, cut, aStore, splice, aBuild, aFill, retL, resL, pack, joinBox]

theorem ok_spec_l02Join : PureOK Try.prog n_spec_l02Join (T2 joinBox) := pureT2 (E2 ok_spec_l00Min ok_spec_l00Max) mixed hb_spec_l02Join fun a b => by
  simp [e_spec_l02Join, envL, aBox, aLoad, cut, aStore, splice, aBuild, aFill, retL, resL, pack, joinBox]

theorem joinBox_self (a : Box) : joinBox a a = a := by simp [joinBox]
def joinAt (l : List Box) (a : Box) (k : Int) : Box := match l[k.toNat]? with
  | some b => joinBox a b
  | none => a
def boxOfItems (l : List Box) (m : List Int) : Box × Int :=
  bif !isPage l then (⟨0, 0, 0, 0⟩, 1) else bif !m.all (isIdx (l.length : Nat)) then (⟨0, 0, 0, 0⟩, 2)
  else match m with
    | [] => (⟨0, 0, 0, 0⟩, 6)
    | k :: r => (r.foldl (joinAt l) (l[k.toNat]?.getD ⟨0, 0, 0, 0⟩), 0)
theorem isIdx_idx {n : Nat} {k : Int} (h : isIdx n k = true) : idx (iv k) n = some k.toNat ∧ k.toNat < n := by
  simp [isIdx, within] at h
  obtain ⟨m, rfl⟩ := Int.eq_ofNat_of_zero_le h.1
  simp only [Int.toNat_natCast]
  exact ⟨idx_lt (by omega), by omega⟩
theorem idx_int {n : Nat} {k : Int} (h : isIdx n k = true) : ∃ m : Nat, k = m ∧ m < n := by
  simp [isIdx, within] at h
  exact ⟨k.toNat, by omega, by omega⟩

theorem lp_spec_l19Boxes (env : Nat → Contract) (he : env n_spec_l02Box = .pure (T1 validBox)) {y1 y16 y17 y18 : AV} (q : Sl Box) (hq : fit q = true) :
    (obind (loopP hm0_spec_l19Boxes xm0_spec_l19Boxes (lb0_spec_l19Boxes env) [Sl.enc q, y1, .top, iv 0, .top, .top, .top, .top, .top, .top, .top, .top, .top, .top, .top, .top, y16, y17, y18] []) fun r => lk0_spec_l19Boxes env r.1 r.2.1 r.2.2) = some (bv (isPage (q.getD [])), []) := by
  have T := lookT q (w := 4) rfl
  have L := loop_over (q.getD []) (fit_max hq) (hmk := hm0_spec_l19Boxes) (xm := xm0_spec_l19Boxes) (body := lb0_spec_l19Boxes env) (K := fun r => lk0_spec_l19Boxes env r.1 r.2.1 r.2.2) (σ := Unit) (fun _ (i : Nat) => [Sl.enc q, y1, .top, iv (i : Nat), .top, .top, .top, .top, .top, .top, .top, .top, .top, .top, .top, .top, y16, y17, y18]) (fun s => [])
    (fun _ suf => (q.getD []).all validBox = suf.all validBox) (fun _ _ => some (bv (isPage (q.getD [])), []))
    (fun pre k suf s hl hi S => by
      cases hk : validBox k
      · left
        have : isPage (q.getD []) = false := by simp only [isPage, hi]; simp [hk]
        rw [loopP.eq_1, this]
        simp [e_lb0_spec_l19Boxes, T.len, T.idx, T.load, S.idx, S.lt, S.elt, cut, S.wr, he, hk, restr, e_lk0r_spec_l19Boxes]
      · right
        refine ⟨(), by rw [hi]; simp [hk], ?_, rfl⟩
        rw [loopP.eq_1]
        simp [e_lb0_spec_l19Boxes, T.len, T.idx, T.load, S.idx, S.lt, S.elt, cut, S.wr, he, hk, restr])
    (fun s hi => by
      have : isPage (q.getD []) = decide ((q.getD []).length ≤ 60) := by simp only [isPage, hi]; simp
      rw [loopP.eq_1, this]
      have c60 : ((((q.getD []).length : Nat) : Int) ≤ 60) = ((q.getD []).length ≤ 60) := propext ⟨by omega, by omega⟩
      simp [e_lb0_spec_l19Boxes, T.len, restr, e_lk0x0_spec_l19Boxes, c60]) () rfl
  simpa using L
theorem ok_spec_l19Boxes : PureOK Try.prog n_spec_l19Boxes (G1 (fun q : Sl Box => fit q) fun q => bv (isPage (q.getD []))) :=
  pureG1 (E1 ok_spec_l02Box) mixed hb_spec_l19Boxes fun q hq => by
  have L := fun env he {y1 y16 y17 y18} => @lp_spec_l19Boxes env he y1 y16 y17 y18 q hq
  simp [e_spec_l19Boxes, envL, L]

theorem lp_impl_BoxOfItems (env : Nat → Contract) (he : env n_impl_joinBoxes = .pure (T2 joinBox)) {y2 y3 y5 y7 y9 y10 y11 y12 y13 y14 y15 y16 y17 y18 y19 y20 y21 y22 y23 y24 y25 y26 y27 y28 y29 y30 y44 : AV} (q : Sl Box) (p : Sl Int) (hp : fit p = true) (hi : (p.getD []).all (isIdx ((q.getD []).length : Nat)) = true) (s : Box) :
    (obind (obind (loopP hm0_impl_BoxOfItems xm0_impl_BoxOfItems (lb0_impl_BoxOfItems env) [Sl.enc q, Sl.enc p, y2, y3, .ptr 0 1 0 0, y5, .ptr 1 1 0 0, y7, .top, y9, y10, y11, y12, y13, y14, y15, y16, y17, y18, y19, y20, y21, y22, y23, y24, y25, y26, y27, y28, y29, y30, Sl.enc p, iv ((p.getD []).length : Nat), iv 0, .top, .top, .top, .top, .top, .top, .top, .top, .top, .top, y44] [⟨4, [[iv 0, iv 0, iv 0, iv 0]]⟩, ⟨4, [[iv s.x1, iv s.y1, iv s.x2, iv s.y2]]⟩]) fun r => lk0_impl_BoxOfItems env r.1 r.2.1 r.2.2) fun p => release p.2 depth p.1) = some (enc (((p.getD []).foldl (joinAt (q.getD [])) s, 0) : Box × Int)) := by
  have T := lookT q (w := 4) rfl
  have U := lookT p (w := 1) rfl
  have h1 : ∀ k ∈ p.getD [], isIdx ((q.getD []).length : Nat) k = true := List.all_eq_true.1 hi
  have L := loop_over (R := AV) (p.getD []) (fit_max hp) (hmk := hm0_impl_BoxOfItems) (xm := xm0_impl_BoxOfItems) (body := lb0_impl_BoxOfItems env) (K := fun r => obind (lk0_impl_BoxOfItems env r.1 r.2.1 r.2.2) fun p => release p.2 depth p.1) (σ := Box) (fun _ (i : Nat) => [Sl.enc q, Sl.enc p, y2, y3, .ptr 0 1 0 0, y5, .ptr 1 1 0 0, y7, .top, y9, y10, y11, y12, y13, y14, y15, y16, y17, y18, y19, y20, y21, y22, y23, y24, y25, y26, y27, y28, y29, y30, Sl.enc p, iv ((p.getD []).length : Nat), iv (i : Nat), .top, .top, .top, .top, .top, .top, .top, .top, .top, .top, y44]) (fun s => [⟨4, [[iv 0, iv 0, iv 0, iv 0]]⟩, ⟨4, [[iv s.x1, iv s.y1, iv s.x2, iv s.y2]]⟩])
    (fun _ _ => True) (fun s suf => some (enc ((suf.foldl (joinAt (q.getD [])) s, 0) : Box × Int)))
    (fun pre k suf s hl _ S => by
      right
      obtain ⟨i1, i2⟩ := isIdx_idx (h1 k (by rw [hl]; simp))
      obtain ⟨b, hb⟩ : ∃ b, (q.getD [])[k.toNat]'i2 = b := ⟨_, rfl⟩
      have hj : joinAt (q.getD []) s k = joinBox s b := by simp [joinAt, i2, hb]
      refine ⟨joinBox s b, trivial, ?_, by simp [hj]⟩
      have c1 : ∀ s : Box, aLoad true 4 (.ptr 1 1 0 0) [⟨4, [[iv 0, iv 0, iv 0, iv 0]]⟩, ⟨4, [[iv s.x1, iv s.y1, iv s.x2, iv s.y2]]⟩] = some (enc s) := fun _ => rfl
      simp only [enc_box] at c1
      rw [loopP.eq_1]
      simp [e_lb0_impl_BoxOfItems, T.len, T.idx, T.load, U.idx, U.load, S.idx, S.lt, S.elt, i1, i2, hb, cut, S.wr, he, c1, aStore, splice, restr])
    (fun s _ => by
      rw [loopP.eq_1]
      simp [e_lb0_impl_BoxOfItems, U.len, restr, e_lk0x1_impl_BoxOfItems, aLoad, cut, aStore, splice, retL, resL, pack]) s trivial
  rw [obind_assoc]
  simpa using L
theorem ok_impl_BoxOfItems : PureOK Try.prog n_impl_BoxOfItems (G2 (fun (q : Sl Box) (p : Sl Int) => fit q && fit p) fun q p => enc (boxOfItems (q.getD []) (p.getD []))) :=
  pureG2 (E3 ok_impl_isPage ok_impl_areIndices ok_impl_joinBoxes) mixed hb_impl_BoxOfItems fun q p h => by
  simp at h
  have T := lookT q (w := 4) rfl
  have U := lookT p (w := 1) rfl
  cases h1 : isPage (q.getD [])
  · simp [e_impl_BoxOfItems, envL, aBox, aLoad, cut, aStore, splice, aBuild, aFill, retL, resL, pack, h, h1, boxOfItems]
  · cases h2 : (p.getD []).all (isIdx ((q.getD []).length : Nat))
    · simp [-List.all_eq_false, -List.all_eq_true, e_impl_BoxOfItems, envL, aBox, aLoad, cut, aStore, splice, aBuild, aFill, retL, resL, pack, h, h1, h2, boxOfItems]
    · cases h3 : p.getD [] with
      | nil =>
        have U3 := U.len
        rw [h3] at U3
        rw [h3] at h2
        simp [e_impl_BoxOfItems, envL, aBox, aLoad, cut, aStore, splice, aBuild, aFill, retL, resL, pack, h, h1, h3, h2, U3, boxOfItems]
      | cons k r =>
        have U3 := U.len
        have hk : isIdx ((q.getD []).length : Nat) k = true := List.all_eq_true.1 h2 k (by rw [h3]; simp)
        obtain ⟨i1, i2⟩ := isIdx_idx hk
        obtain ⟨b, hb⟩ : ∃ b, (q.getD [])[k.toNat]'i2 = b := ⟨_, rfl⟩
        have hlen : (p.getD []).length = r.length + 1 := by rw [h3]; rfl
        have j1 : idx (iv 0) (r.length + 1) = some 0 := idx_lt (i := 0) (by omega)
        have j2 : (p.getD [])[0]? = some k := by rw [h3]; rfl
        have j3 : ∀ h : 0 < (p.getD []).length, (p.getD [])[0] = k := fun h => by simpa [h] using j2
        have L := fun env he {y2 y3 y5 y7 y9 y10 y11 y12 y13 y14 y15 y16 y17 y18 y19 y20 y21 y22 y23 y24 y25 y26 y27 y28 y29 y30 y44} => @lp_impl_BoxOfItems env he y2 y3 y5 y7 y9 y10 y11 y12 y13 y14 y15 y16 y17 y18 y19 y20 y21 y22 y23 y24 y25 y26 y27 y28 y29 y30 y44 q p h.2 h2 b
        rw [h3] at L
        have hj : joinAt (q.getD []) b k = b := by simp [joinAt, i2, hb, joinBox_self]
        have he : boxOfItems (q.getD []) (k :: r) = (r.foldl (joinAt (q.getD [])) b, 0) := by
          rw [h3] at h2
          simp only [boxOfItems, h1, h2]
          simp [i2, hb]
        rw [he]
        have c0 : ∀ b c : Box, aLoad true 4 (.ptr 1 1 0 0) [⟨4, [[iv c.x1, iv c.y1, iv c.x2, iv c.y2]]⟩, ⟨4, [[iv b.x1, iv b.y1, iv b.x2, iv b.y2]]⟩] = some (enc b) := fun _ _ => rfl
        have nz : ¬ ((r.length : Int) + 1 = 0) := by omega
        simp [hj] at L
        simp [e_impl_BoxOfItems, envL, aBox, cut, aStore, splice, h, h1, h2, U3, hlen, nz, T.idx, T.load, U.idx, U.load, j1, j2, j3, i1, i2, hb, L]

theorem lp1_spec_BoxOfItems (env : Nat → Contract) (he : env n_spec_l02Join = .pure (T2 joinBox)) {y2 y3 y5 y6 y9 y10 y11 y12 y13 y14 y15 y16 y17 y18 y19 y20 y21 y22 y23 y24 y25 y26 y27 y28 y29 y30 y31 y32 y33 y34 y35 y36 y37 y38 y54 : AV} (q : Sl Box) (p : Sl Int) (hp : fit p = true) (hi : (p.getD []).all (isIdx ((q.getD []).length : Nat)) = true) (s : Box) (k0 : Int) (r0 : List Int) (h3 : p.getD [] = k0 :: r0) :
    (obind (obind (loopP hm1_spec_BoxOfItems xm1_spec_BoxOfItems (lb1_spec_BoxOfItems env) [Sl.enc q, Sl.enc p, y2, y3, .ptr 0 1 0 0, y5, y6, .ptr 1 1 0 0, iv 1, y9, y10, y11, y12, y13, y14, y15, y16, y17, y18, y19, y20, y21, y22, y23, y24, y25, y26, y27, y28, y29, y30, y31, y32, y33, y34, y35, y36, y37, y38, .top, .top, .top, .top, .top, .top, .top, .top, .top, .top, .top, .top, .top, .top, .top, y54] [⟨4, [[iv 0, iv 0, iv 0, iv 0]]⟩, ⟨4, [[iv s.x1, iv s.y1, iv s.x2, iv s.y2]]⟩]) fun r => lk1_spec_BoxOfItems env r.1 r.2.1 r.2.2) fun p => release p.2 depth p.1) = some (enc ((r0.foldl (joinAt (q.getD [])) s, 0) : Box × Int)) := by
  have T := lookT q (w := 4) rfl
  have U := lookT p (w := 1) rfl
  have h1 : ∀ k ∈ p.getD [], isIdx ((q.getD []).length : Nat) k = true := List.all_eq_true.1 hi
  have L := loop_from (R := AV) (p.getD []) (fit_max hp) (hmk := hm1_spec_BoxOfItems) (xm := xm1_spec_BoxOfItems) (body := lb1_spec_BoxOfItems env) (K := fun r => obind (lk1_spec_BoxOfItems env r.1 r.2.1 r.2.2) fun p => release p.2 depth p.1) (σ := Box) (fun _ (i : Nat) => [Sl.enc q, Sl.enc p, y2, y3, .ptr 0 1 0 0, y5, y6, .ptr 1 1 0 0, iv (i : Nat), y9, y10, y11, y12, y13, y14, y15, y16, y17, y18, y19, y20, y21, y22, y23, y24, y25, y26, y27, y28, y29, y30, y31, y32, y33, y34, y35, y36, y37, y38, .top, .top, .top, .top, .top, .top, .top, .top, .top, .top, .top, .top, .top, .top, .top, y54]) (fun s => [⟨4, [[iv 0, iv 0, iv 0, iv 0]]⟩, ⟨4, [[iv s.x1, iv s.y1, iv s.x2, iv s.y2]]⟩])
    (fun _ _ => True) (fun s suf => some (enc ((suf.foldl (joinAt (q.getD [])) s, 0) : Box × Int)))
    (fun pre k suf s hl _ S => by
      right
      obtain ⟨i1, i2⟩ := isIdx_idx (h1 k (by rw [hl]; simp))
      obtain ⟨b, hb⟩ : ∃ b, (q.getD [])[k.toNat]'i2 = b := ⟨_, rfl⟩
      have hj : joinAt (q.getD []) s k = joinBox s b := by simp [joinAt, i2, hb]
      refine ⟨joinBox s b, trivial, ?_, by simp [hj]⟩
      have c1 : ∀ s : Box, aLoad true 4 (.ptr 1 1 0 0) [⟨4, [[iv 0, iv 0, iv 0, iv 0]]⟩, ⟨4, [[iv s.x1, iv s.y1, iv s.x2, iv s.y2]]⟩] = some (enc s) := fun _ => rfl
      simp only [enc_box] at c1
      rw [loopP.eq_1]
      simp [e_lb1_spec_BoxOfItems, T.len, T.idx, T.load, U.len, U.idx, U.load, S.idx, S.lt, S.elt, i1, i2, hb, cut, S.wr, he, c1, aStore, splice, restr])
    (fun s _ => by
      rw [loopP.eq_1]
      simp [e_lb1_spec_BoxOfItems, U.len, restr, e_lk1x2_spec_BoxOfItems, aLoad, cut, aStore, splice, retL, resL, pack]) [k0] r0 h3 s trivial
  rw [obind_assoc]
  simpa using L

theorem lp0_spec_BoxOfItems (env : Nat → Contract) (he : env n_spec_l02Join = .pure (T2 joinBox)) (hf : env n_spec_l00In = .pure (T3 within)) {y2 y3 y7 y8 y9 y10 y11 y12 y29 y30 y31 y32 y33 y34 y35 y36 y37 y38 y39 y40 y41 y42 y43 y44 y45 y46 y47 y48 y49 y50 y51 y52 y53 y54 : AV} (q : Sl Box) (p : Sl Int) (hq : fit q = true) (hp : fit p = true) (hg : isPage (q.getD []) = true) :
    (obind (obind (loopP hm0_spec_BoxOfItems xm0_spec_BoxOfItems (lb0_spec_BoxOfItems env) [Sl.enc q, Sl.enc p, y2, y3, .ptr 0 1 0 0, .top, iv 0, y7, y8, y9, y10, y11, y12, .top, .top, .top, .top, .top, .top, .top, .top, .top, .top, .top, .top, .top, .top, .top, .top, y29, y30, y31, y32, y33, y34, y35, y36, y37, y38, y39, y40, y41, y42, y43, y44, y45, y46, y47, y48, y49, y50, y51, y52, y53, y54] [⟨4, [[iv 0, iv 0, iv 0, iv 0]]⟩]) fun r => lk0_spec_BoxOfItems env r.1 r.2.1 r.2.2) fun p => release p.2 depth p.1) = some (enc (boxOfItems (q.getD []) (p.getD []))) := by
  have T := lookT q (w := 4) rfl
  have U := lookT p (w := 1) rfl
  have hl := fit_len hq
  have hw : wr (((q.getD []).length : Nat) - 1 : Int) = ((q.getD []).length : Nat) - 1 := wr_id (by omega) (by omega)
  have e0 : ∀ m : List Int, m.all (isIdx ((q.getD []).length : Nat)) = false → enc (boxOfItems (q.getD []) m) = .tup [.agg [iv 0, iv 0, iv 0, iv 0], iv 2] := fun m hm => by simp only [boxOfItems, hg, hm]; rfl
  have L := loop_over (R := AV) (p.getD []) (fit_max hp) (hmk := hm0_spec_BoxOfItems) (xm := xm0_spec_BoxOfItems) (body := lb0_spec_BoxOfItems env) (K := fun r => obind (lk0_spec_BoxOfItems env r.1 r.2.1 r.2.2) fun p => release p.2 depth p.1) (σ := Unit) (fun _ (i : Nat) => [Sl.enc q, Sl.enc p, y2, y3, .ptr 0 1 0 0, .top, iv (i : Nat), y7, y8, y9, y10, y11, y12, .top, .top, .top, .top, .top, .top, .top, .top, .top, .top, .top, .top, .top, .top, .top, .top, y29, y30, y31, y32, y33, y34, y35, y36, y37, y38, y39, y40, y41, y42, y43, y44, y45, y46, y47, y48, y49, y50, y51, y52, y53, y54]) (fun s => [⟨4, [[iv 0, iv 0, iv 0, iv 0]]⟩])
    (fun _ suf => (p.getD []).all (isIdx ((q.getD []).length : Nat)) = suf.all (isIdx ((q.getD []).length : Nat))) (fun _ _ => some (enc (boxOfItems (q.getD []) (p.getD []))))
    (fun pre k suf s hl hi S => by
      have hin : isIdx ((q.getD []).length : Nat) k = within k 0 (((q.getD []).length : Nat) - 1) := rfl
      cases hk : isIdx ((q.getD []).length : Nat) k
      · left
        rw [e0 _ (by rw [hi]; simp [hk])]
        rw [loopP.eq_1]
        rw [hin] at hk
        simp [e_lb0_spec_BoxOfItems, T.len, hw, U.len, U.idx, U.load, S.idx, S.lt, S.elt, cut, S.wr, hf, hk, aBuild, aFill, aStore, splice, restr, e_lk0r_spec_BoxOfItems, retL, resL, pack, (show aLoad true 4 (.ptr 0 1 0 0) [⟨4, [[iv 0, iv 0, iv 0, iv 0]]⟩] = some (.agg [iv 0, iv 0, iv 0, iv 0]) from rfl)]
      · right
        refine ⟨(), by rw [hi]; simp [hk], ?_, rfl⟩
        rw [loopP.eq_1]
        rw [hin] at hk
        simp [e_lb0_spec_BoxOfItems, T.len, hw, U.len, U.idx, U.load, S.idx, S.lt, S.elt, cut, S.wr, hf, hk, restr])
    (fun s hi => by
      rw [loopP.eq_1]
      cases h3 : p.getD [] with
      | nil =>
        have U3 := U.len
        rw [h3] at U3
        simp [e_lb0_spec_BoxOfItems, U3, restr, e_lk0x0_spec_BoxOfItems, aBuild, aFill, aLoad, cut, aStore, splice, retL, resL, pack, boxOfItems, hg]
      | cons k r =>
        have h2 : (p.getD []).all (isIdx ((q.getD []).length : Nat)) = true := by rw [hi]; rfl
        have U3 := U.len
        have hk : isIdx ((q.getD []).length : Nat) k = true := List.all_eq_true.1 h2 k (by rw [h3]; simp)
        obtain ⟨i1, i2⟩ := isIdx_idx hk
        obtain ⟨b, hb⟩ : ∃ b, (q.getD [])[k.toNat]'i2 = b := ⟨_, rfl⟩
        have hlen : (p.getD []).length = r.length + 1 := by rw [h3]; rfl
        have j1 : idx (iv 0) (r.length + 1) = some 0 := idx_lt (i := 0) (by omega)
        have j2 : (p.getD [])[0]? = some k := by rw [h3]; rfl
        have j3 : ∀ h : 0 < (p.getD []).length, (p.getD [])[0] = k := fun h => by simpa [h] using j2
        have L := fun {y2 y3 y5 y6 y9 y10 y11 y12 y13 y14 y15 y16 y17 y18 y19 y20 y21 y22 y23 y24 y25 y26 y27 y28 y29 y30 y31 y32 y33 y34 y35 y36 y37 y38 y54} => @lp1_spec_BoxOfItems env he y2 y3 y5 y6 y9 y10 y11 y12 y13 y14 y15 y16 y17 y18 y19 y20 y21 y22 y23 y24 y25 y26 y27 y28 y29 y30 y31 y32 y33 y34 y35 y36 y37 y38 y54 q p hp h2 b k r h3
        have he : boxOfItems (q.getD []) (k :: r) = (r.foldl (joinAt (q.getD [])) b, 0) := by
          rw [h3] at h2
          simp only [boxOfItems, hg, h2]
          simp [i2, hb]
        rw [he]
        have nz : ¬ ((r.length : Int) + 1 = 0) := by omega
        simp at L
        simp only [← h3]
        simp [e_lb0_spec_BoxOfItems, U3, hlen, nz, restr, e_lk0x0_spec_BoxOfItems, aBox, cut, aStore, splice, T.idx, T.load, U.idx, U.load, j1, j2, j3, i1, i2, hb, L]) () rfl
  rw [obind_assoc]
  simpa using L
theorem ok_spec_BoxOfItems : PureOK Try.prog n_spec_BoxOfItems (G2 (fun (q : Sl Box) (p : Sl Int) => fit q && fit p) fun q p => enc (boxOfItems (q.getD []) (p.getD []))) :=
  pureG2 (E3 ok_spec_l19Boxes ok_spec_l00In ok_spec_l02Join) mixed hb_spec_BoxOfItems fun q p h => by
  simp at h
  cases h1 : isPage (q.getD [])
  · simp [e_spec_BoxOfItems, envL, aBox, aLoad, cut, aStore, splice, aBuild, aFill, retL, resL, pack, h, h1, boxOfItems]
  · have L := fun env he hf {y2 y3 y7 y8 y9 y10 y11 y12 y29 y30 y31 y32 y33 y34 y35 y36 y37 y38 y39 y40 y41 y42 y43 y44 y45 y46 y47 y48 y49 y50 y51 y52 y53 y54} => @lp0_spec_BoxOfItems env he hf y2 y3 y7 y8 y9 y10 y11 y12 y29 y30 y31 y32 y33 y34 y35 y36 y37 y38 y39 y40 y41 y42 y43 y44 y45 y46 y47 y48 y49 y50 y51 y52 y53 y54 q p h.1 h.2 h1
    simp [e_spec_BoxOfItems, envL, aBox, h, h1] at L ⊢
    simp [L]

theorem ok_laws_FnExactBoxOfItems : PureOK Try.prog n_laws_FnExactBoxOfItems (G2 (fun (a : Sl Box) (b : Sl Int) => Wt.big a && Wt.big b) fun _ _ => bv true) :=
  pureG2 (Econs ok_laws_szBoxS (Econs ok_laws_toBoxS (Econs ok_laws_toInt64S (Econs ok_spec_BoxOfItems (E4 ok_impl_BoxOfItems ok_laws_eqBox ok_laws_eqBoxS ok_laws_eqInt64S))))) mixed hb_laws_FnExactBoxOfItems fun a b h => by
  simp at h
  have U := lookT b (w := 1) rfl
  by_cases h0 : (1048576 : Int) < ((b.getD []).length : Nat)
  · simp [e_laws_FnExactBoxOfItems, envL, U.len, h0]
  have hb1 : fit b = true := by
    rw [fit_iff, wt_zero (fun _ => rfl) b]
    omega
  have s1 : szOK a 1048576 = true := by simp [szOK, h]
  by_cases h1 : (1048576 : Int) < (Wt.wt a : Nat)
  · simp [e_laws_FnExactBoxOfItems, envL, U.len, h0, s1, szR_lt h1]
  · have r1 : ¬ (1048576 : Int) - (Wt.wt a : Nat) < 0 := by omega
    have f1 : fit a = true := fit_wt h1 (by decide)
    simp [e_laws_FnExactBoxOfItems, envL, U.len, h0, s1, szR_ge h1, r1, f1, hb1, hand_nws, snapD_nws, fit_norm f1, fit_norm hb1, aBox, aLoad, cut, aStore, splice]
theorem law_FnExactBoxOfItems (a : Sl Box) (b : Sl Int) (ha : Row.fine a) (hb : Row.fine b) : G2 (fun (a : Sl Box) (b : Sl Int) => Wt.big a && Wt.big b) (fun _ _ => bv true) [enc a, enc b] = some (bv true) := G2_enc _ _ a b (by simp [Wt.fb a ha, Wt.fb b hb])

theorem isC_2 {cs : List AV} (h : IsC Try.prog 2 cs) : ∃ x : Int, cs = Row.cells x ∧ Row.fine x := by
  obtain ⟨n, rfl, hn⟩ := IsC.intE Try.underlying2 h
  exact ⟨n, rfl, fine_int hn⟩
theorem isC_100 {cs : List AV} (h : IsC Try.prog 100 cs) : ∃ x : Box, cs = Row.cells x ∧ Row.fine x := by
  replace h := IsC.structE Try.underlying100 h
  obtain ⟨c0, r0, rfl, q0, k0⟩ := IsFs.consE h
  obtain ⟨c1, r1, rfl, q1, k1⟩ := IsFs.consE k0
  obtain ⟨c2, r2, rfl, q2, k2⟩ := IsFs.consE k1
  obtain ⟨c3, r3, rfl, q3, k3⟩ := IsFs.consE k2
  cases IsFs.nilE k3
  obtain ⟨v0, rfl, w0⟩ := isC_2 q0
  obtain ⟨v1, rfl, w1⟩ := isC_2 q1
  obtain ⟨v2, rfl, w2⟩ := isC_2 q2
  obtain ⟨v3, rfl, w3⟩ := isC_2 q3
  exact ⟨⟨v0, v1, v2, v3⟩, rfl, w0, w1, w2, w3⟩
theorem isC_56 {cs : List AV} (h : IsC Try.prog 56 cs) : ∃ x : (Sl Box), cs = Row.cells x ∧ Row.fine x := by
  rcases IsC.sliceE Try.underlying56 h with rfl | ⟨rows, rfl, h1, h2⟩
  · exact ⟨none, rfl, Sl.fineNil⟩
  · exact Sl.isC (by kernel_rfl) h1 fun row hr => isC_100 (h2 row hr)
theorem isC_57 {cs : List AV} (h : IsC Try.prog 57 cs) : ∃ x : (Sl Int), cs = Row.cells x ∧ Row.fine x := by
  rcases IsC.sliceE Try.underlying57 h with rfl | ⟨rows, rfl, h1, h2⟩
  · exact ⟨none, rfl, Sl.fineNil⟩
  · exact Sl.isC (by kernel_rfl) h1 fun row hr => isC_2 (h2 row hr)
theorem own : ownKnob Try.prog.godebug = none := by kernel_rfl
theorem laidOut : laidOutB Try.prog = true := by kernel_rfl

set_option maxRecDepth 100000 in
theorem holds : Rows.FnExactBoxOfItemsSaid :=
  OpenClaim.holds_of_wide 8 Try.f8 rfl rfl rfl rfl rfl rfl rfl ⟨rfl, rfl, rfl, rfl, rfl⟩ rfl rfl rfl rfl rfl (by kernel_rfl) Try.func8 (by kernel_rfl)
    (of_decide_eq_true (by kernel_rfl)) (by unfold Func.isWrapper; rw [if_neg (by decide +kernel)]; exact ⟨rfl, rfl⟩)
    (fun os started H enc _ => law_lifted (C := Try.checked) (s := Rows.fnExactBoxOfItemsSpec) own started (by kernel_rfl) Try.func8
      (ChangeSpec.witness6 (enc := enc) (C := Try.checked) false ⟨#[], #[.slice none 0 0, .slice none 0 0], []⟩ 8 (by kernel_rfl) (by kernel_rfl) (by kernel_rfl) (by kernel_rfl))
      laidOut rfl (tb := 4) rfl Try.underlying4 (ts := [56, 100, 2, 57]) (by kernel_rfl)
      (fun ds h => by match ds, h with | [d0, d1], _ => rfl)
      hb_laws_FnExactBoxOfItems ok_laws_FnExactBoxOfItems (by
    intro l h
    obtain ⟨a0, l0, rfl, g0, k0⟩ := h
    obtain ⟨a1, l1, rfl, g1, k1⟩ := k0
    cases k1
    obtain ⟨b0, e0, w0⟩ := isC_56 (isV_one (by kernel_rfl) g0)
    obtain rfl := one_enc e0
    obtain ⟨b1, e1, w1⟩ := isC_57 (isV_one (by kernel_rfl) g1)
    obtain rfl := one_enc e1
    exact law_FnExactBoxOfItems b0 b1 w0 w1))
#print axioms holds
end Go.Proofs.Ytfladjnggkeiaaa
