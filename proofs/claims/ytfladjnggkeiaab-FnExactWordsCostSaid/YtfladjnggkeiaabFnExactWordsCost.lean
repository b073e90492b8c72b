/-
  The law FnExactWordsCost holds, for all arguments: it returns true, and its arguments read behind the call as before. No condition.
-/
import Derived.Test.YtfladjnggkeiaabFnExactWordsCostGen
import Derived.Test.YtfladjnggkeiaabRows
namespace Go.Proofs.Ytfladjnggkeiaab
open Go Go.Eng Go.Eng.Cod
set_option maxRecDepth 100000

theorem nil_ok : EnvOK Try.prog (envL []) := E0

def within (a b c : Int) : Bool := decide (b ≤ a) && decide (a ≤ c)

theorem ok_impl_within : PureOK Try.prog n_impl_within (T3 within) := pureT3 nil_ok mixed hb_impl_within fun a b c => by
  simp [e_impl_within, within]

theorem ok_spec_l00In : PureOK Try.prog n_spec_l00In (T3 within) := pureT3 nil_ok mixed hb_spec_l00In fun a b c => by
  simp [e_spec_l00In, within]

def validBox (b : Box) : Bool := within b.x1 0 b.x2 && within b.y1 0 b.y2 && decide (b.x2 ≤ 4095) && decide (b.y2 ≤ 4095)

theorem ok_laws_szBigram : PureOK Try.prog n_laws_szBigram (G2 (fun (q : Bigram) left => szOK q left) fun q left => iv (szR left (Wt.wt q))) :=
  pureG2 E0 mixed hb_laws_szBigram fun q left h => by
  obtain ⟨h1, h2, h3⟩ := (szOK_iff q left).1 h
  rw [big_Bigram] at h1
  simp only [Bool.and_eq_true] at h1
  have g1 : q.first.size ≤ maxLen := of_decide_eq_true h1.1
  have g2 : q.second.size ≤ maxLen := of_decide_eq_true h1.2
  have h4 := sz_len h2 h3 g1
  have h5 : Wt.wt q = q.first.size + q.second.size := rfl
  rw [h5]
  by_cases hl : left < (q.first.size : Nat)
  · have : left - (q.first.size : Nat) < 0 := by omega
    simp [e_laws_szBigram, aBox, aLoad, cut, h4, this, szR_lt' hl]
  · have r1 : ¬ left - (q.first.size : Nat) < 0 := by omega
    have h6 := sz_len (left := left - (q.first.size : Nat)) (by omega) (by omega) g2
    rw [szR_add hl]
    by_cases hm : left - (q.first.size : Nat) < (q.second.size : Nat)
    · have : left - (q.first.size : Nat) - (q.second.size : Nat) < 0 := by omega
      simp [e_laws_szBigram, aBox, aLoad, cut, h4, r1, h6, this, szR_lt hm]
    · have : ¬ left - (q.first.size : Nat) - (q.second.size : Nat) < 0 := by omega
      simp [e_laws_szBigram, aBox, aLoad, cut, h4, r1, h6, this, szR_ge hm]

theorem ok_laws_toBigram : PureOK Try.prog n_laws_toBigram (T1 fun b : Bigram => b) := pureT1 E0 mixed hb_laws_toBigram fun b => by
  simp [e_laws_toBigram, envL, aBox, aLoad, cut, aStore, splice, retL, resL, pack]

theorem ok_laws_eqBigram : PureOK Try.prog n_laws_eqBigram (T2 fun a b : Bigram => decide (a = b)) := pureT2 E0 mixed hb_laws_eqBigram fun a b => by
  simp [e_laws_eqBigram, envL, aBox, aLoad, cut]
  obtain ⟨a0, a1, a2⟩ := a
  obtain ⟨b0, b1, b2⟩ := b
  simp

theorem lp_laws_szBigramS (env : Nat → Contract) (he : env n_laws_szBigram = .pure (G2 (fun (q : Bigram) left => szOK q left) fun q left => iv (szR left (Wt.wt q)))) (q : Sl Bigram) (hq : Wt.big q = true) (left s : Int) (hs : 0 ≤ s ∧ s ≤ 1048576) :
    obind (loopP hm0_laws_szBigramS xm0_laws_szBigramS (lb0_laws_szBigramS env) [Sl.enc q, iv s, und, und, .top, iv 0, iv left, Sl.enc q, iv ((q.getD []).length : Nat), iv (left - ((q.getD []).length : Nat)), iv (left - ((q.getD []).length : Nat)), bv false, .top, .top, .top, .top, .top, .top, .top, .top, .top, .top, .top, .top, .top, .top, und] []) (fun r => lk0_laws_szBigramS env r.1 r.2.1 r.2.2) = some (iv (szR s ((q.getD []).map Wt.wt).sum), []) := by
  have T := lookT q (w := 3) rfl
  exact loop_over (q.getD []) (big_len hq) (hmk := hm0_laws_szBigramS) (xm := xm0_laws_szBigramS) (body := lb0_laws_szBigramS env) (K := fun r => lk0_laws_szBigramS env r.1 r.2.1 r.2.2) (σ := Int) (fun s i => [Sl.enc q, iv s, und, und, .top, iv (i : Int), iv left, Sl.enc q, iv ((q.getD []).length : Nat), iv (left - ((q.getD []).length : Nat)), iv (left - ((q.getD []).length : Nat)), bv false, .top, .top, .top, .top, .top, .top, .top, .top, .top, .top, .top, .top, .top, .top, und]) (fun _ => [])
    (fun s _ => 0 ≤ s ∧ s ≤ 1048576) (fun s suf => some (iv (szR s (suf.map Wt.wt).sum), []))
    (fun pre x suf s hl hi S => by
      have hb : Wt.big x = true := big_mem hq (by rw [hl]; simp)
      have ho : szOK x s = true := (szOK_iff x s).2 ⟨hb, hi.1, hi.2⟩
      by_cases h : s < (Wt.wt x : Nat)
      · left
        rw [loopP.eq_1]
        have h2 := szR_lt' (v := (suf.map Wt.wt).sum) h
        simp only [List.map_cons, List.sum_cons, h2]
        simp [e_lb0_laws_szBigramS, T.len, T.idx, T.load, S.idx, S.lt, S.elt, cut, S.wr, he, ho, szR_lt h, restr, e_lk0r_laws_szBigramS]
      · right
        refine ⟨s - (Wt.wt x : Nat), ⟨by omega, by omega⟩, ?_, ?_⟩
        · rw [loopP.eq_1]
          have h3 : ¬ s - (Wt.wt x : Nat) < 0 := by omega
          simp [e_lb0_laws_szBigramS, T.len, T.idx, T.load, S.idx, S.lt, S.elt, cut, S.wr, he, ho, szR_ge h, h3, restr]
        · simp only [List.map_cons, List.sum_cons, szR_add h])
    (fun s hi => by
      rw [loopP.eq_1]
      have h3 : ¬ s < 0 := by omega
      simp [e_lb0_laws_szBigramS, T.len, restr, e_lk0x0_laws_szBigramS, szR, h3]) s hs
theorem ok_laws_szBigramS : PureOK Try.prog n_laws_szBigramS (G2 (fun (q : Sl Bigram) left => szOK q left) fun q left => iv (szR left (Wt.wt q))) :=
  pureG2 (E1 ok_laws_szBigram) mixed hb_laws_szBigramS fun q left h => by
  have T := lookT q (w := 3) rfl
  obtain ⟨h1, h2, h3⟩ := (szOK_iff q left).1 h
  have h4 := sz_len h2 h3 (big_len h1)
  rw [wt_sl]
  by_cases hl : left < ((q.getD []).length : Nat)
  · have h5 : left - ((q.getD []).length : Nat) < 0 := by omega
    simp [e_laws_szBigramS, T.len, h4, h5, szR_lt' hl]
  · have h5 : ¬ left - ((q.getD []).length : Nat) < 0 := by omega
    have L := fun env he => lp_laws_szBigramS env he q h1 left (left - ((q.getD []).length : Nat)) ⟨by omega, by omega⟩
    simp [e_laws_szBigramS, T.len, h4, h5, L, envL, szR_add hl]

theorem lp_laws_toBigramS (env : Nat → Contract) (q : Sl Bigram) (hq : fit q = true) (he : env n_laws_toBigram = .pure (T1 fun b : Bigram => b)) : obind (loopP hm0_laws_toBigramS xm0_laws_toBigramS (lb0_laws_toBigramS env) [Sl.enc q, und, nilS, .sl 0 (q.getD []).length 0 (q.getD []).length, iv 0, Sl.enc q, iv ((q.getD []).length : Nat), .sl 0 (q.getD []).length 0 (q.getD []).length, .top, .top, .top, .top, .top, .top, .top, .top, .top, .top, .top, .top, .top, .top, und] [⟨3, List.replicate (q.getD []).length [(sv ⟨#[]⟩), (sv ⟨#[]⟩), (iv 0)]⟩]) (fun r => lk0_laws_toBigramS env r.1 r.2.1 r.2.2) = some (.sl 0 (q.getD []).length 0 (q.getD []).length, mt (nws q) 0) := by
  have T := lookT q (w := 3) rfl
  have L := loop_fill (A := Bigram) (by decide) (q.getD []) (hm := hm0_laws_toBigramS) (xm := xm0_laws_toBigramS) (body := lb0_laws_toBigramS env) (K := fun r => lk0_laws_toBigramS env r.1 r.2.1 r.2.2) [(sv ⟨#[]⟩), (sv ⟨#[]⟩), (iv 0)] (fun i => [Sl.enc q, und, nilS, .sl 0 (q.getD []).length 0 (q.getD []).length, iv (i : Int), Sl.enc q, iv ((q.getD []).length : Nat), .sl 0 (q.getD []).length 0 (q.getD []).length, .top, .top, .top, .top, .top, .top, .top, .top, .top, .top, .top, .top, .top, .top, und]) (by
    intro pre a suf rows objs hl hr
    have S := Stp.mk' hl (fit_max hq)
    have hn : pre.length + 1 + suf.length = (q.getD []).length := by rw [hl]; simp; omega
    have hfit : fit a = true := fit_mem hq (by rw [hl]; simp)
    have fa := fun objs => fill_addr (w := 3) (rows := rows) (objs := objs) (z := [(sv ⟨#[]⟩), (sv ⟨#[]⟩), (iv 0)]) hr hn
    have fs := fun objs v => fill_store (w := 3) (rows := rows) (objs := objs) (z := [(sv ⟨#[]⟩), (sv ⟨#[]⟩), (iv 0)]) (v := v) hr hn rfl
    rw [loopP.eq_1]
    simp [e_lb0_laws_toBigramS, T.len, T.idx, T.load, S.idx, S.lt, S.elt, cut, S.wr, fa, he]
    rw [fs _ _ rfl (by simp)]
    simp [restr])
  simp at L
  rw [L, loopP.eq_1]
  simp [e_lb0_laws_toBigramS, T.len, restr, e_lk0x0_laws_toBigramS]
  rfl
theorem ok_laws_toBigramS : PureOK Try.prog n_laws_toBigramS (G1 (fun q : Sl Bigram => fit q) nws) :=
  pureG1 (E1 ok_laws_toBigram) mixed hb_laws_toBigramS fun q hq => by
  have T := lookT q (w := 3) rfl
  have M := make_ok (bytes := 40) [(sv ⟨#[]⟩), (sv ⟨#[]⟩), (iv 0)] [] (fit_len hq) (by decide)
  simp at M
  have L := fun env he => lp_laws_toBigramS env q hq he
  simp [e_laws_toBigramS, T.len, M, L, envL]
  exact release_nws (by decide) q

theorem lp_laws_eqBigramS (env : Nat → Contract) (q p : Sl Bigram) (hq : fit q = true) (hl : (q.getD []).length = (p.getD []).length) (he : env n_laws_eqBigram = .pure (T2 fun a b : Bigram => decide (a = b))) : obind (loopP hm0_laws_eqBigramS xm0_laws_eqBigramS (lb0_laws_eqBigramS env) [Sl.enc q, Sl.enc p, und, und, .top, iv 0, Sl.enc q, iv ((q.getD []).length : Nat), Sl.enc p, iv ((p.getD []).length : Nat), bv false, .top, .top, .top, .top, .top, .top, .top, .top, .top, .top, .top, .top, .top, .top, .top, .top] []) (fun r => lk0_laws_eqBigramS env r.1 r.2.1 r.2.2) = some (bif decide (q.getD [] = p.getD []) then (bv true, []) else (bv false, [])) := by
  have T := lookT q (w := 3) rfl
  have U := lookT p (w := 3) rfl
  have L := loop_eq (A := Bigram) hl (fit_max hq) (hmk := hm0_laws_eqBigramS) (xm := xm0_laws_eqBigramS) (body := lb0_laws_eqBigramS env) (K := fun r => lk0_laws_eqBigramS env r.1 r.2.1 r.2.2) [] (fun i => [Sl.enc q, Sl.enc p, und, und, .top, iv (i : Int), Sl.enc q, iv ((q.getD []).length : Nat), Sl.enc p, iv ((p.getD []).length : Nat), bv false, .top, .top, .top, .top, .top, .top, .top, .top, .top, .top, .top, .top, .top, .top, .top, .top]) (bv true, []) (bv false, [])
    (by
      intro pre x y S h1 h2 h3
      have h4 : (p.getD [])[pre.length] = y := by simpa [h3] using h2
      rw [loopP.eq_1]
      simp [e_lb0_laws_eqBigramS, T.len, T.idx, T.load, U.idx, U.load, S.idx, S.lt, S.elt, h1, h3, h4, cut, S.wr, he]
      cases decide (x = y) <;> simp [restr, e_lk0r_laws_eqBigramS])
    (by
      rw [loopP.eq_1]
      simp [e_lb0_laws_eqBigramS, T.len, restr, e_lk0x0_laws_eqBigramS])
  simpa using L
theorem ok_laws_eqBigramS : PureOK Try.prog n_laws_eqBigramS (G2 (fun q _ : Sl Bigram => fit q) fun q p => bv (decide (q.getD [] = p.getD []))) :=
  pureG2 (E1 ok_laws_eqBigram) mixed hb_laws_eqBigramS fun q p hq => by
  have T := lookT q (w := 3) rfl
  have U := lookT p (w := 3) rfl
  by_cases hl : (q.getD []).length = (p.getD []).length
  · have L := fun env he => lp_laws_eqBigramS env q p hq hl he
    simp [e_laws_eqBigramS, T.len, U.len, hl, envL] at L ⊢
    simp [L]
  · have h2 : ¬ q.getD [] = p.getD [] := fun e => hl (by rw [e])
    have h3 : ¬ ((q.getD []).length : Int) = (p.getD []).length := by omega
    simp [e_laws_eqBigramS, T.len, U.len, h3, h2]

def names : List ByteArray := [⟨#[110, 111, 110, 101]⟩, ⟨#[114, 105, 103, 104, 116]⟩, ⟨#[97, 98, 111, 118, 101]⟩, ⟨#[98, 101, 108, 111, 119]⟩, ⟨#[117, 112, 112, 101, 114]⟩, ⟨#[108, 111, 119, 101, 114]⟩, ⟨#[105, 110, 115, 105, 100, 101]⟩]
@[simp] theorem names_len : names.length = 7 := rfl

def find (s : ByteArray) : List ByteArray → Nat → Int
  | [], _ => -1
  | x :: r, i => bif decide (x = s) then (i : Int) else find s r (i + 1)
def relationNamed (s : ByteArray) : Int × Int := bif decide (find s names 0 < 0) then (0, 3) else (find s names 0, 0)
theorem find_pos (s : ByteArray) : ∀ (l : List ByteArray) (i : Nat), find s l i = -1 ∨ 0 ≤ find s l i
  | [], _ => .inl rfl
  | x :: r, i => by
    unfold find
    cases decide (x = s)
    · simpa using find_pos s r (i + 1)
    · right; simp

theorem ok_laws_szModel : PureOK Try.prog n_laws_szModel (G2 (fun (q : Model) left => szOK q left) fun q left => iv (szR left (Wt.wt q))) :=
  pureG2 (E1 ok_laws_szBigramS) mixed hb_laws_szModel fun q left h => by
  have h' : szOK q.bigrams left = true := h
  obtain ⟨h1, h2, h3⟩ := (szOK_iff q left).1 h
  rw [wt_Model]
  by_cases hl : left < (Wt.wt q.bigrams : Nat)
  · simp [e_laws_szModel, envL, aBox, aLoad, cut, h', szR_lt hl]
  · have : ¬ left - (Wt.wt q.bigrams : Nat) < 0 := by omega
    simp [e_laws_szModel, envL, aBox, aLoad, cut, h', szR_ge hl, this]

theorem ok_laws_toModel : PureOK Try.prog n_laws_toModel (G1 (fun b : Model => fit b) nag) :=
  pureG1 (E1 ok_laws_toBigramS) mixed hb_laws_toModel fun b h => by
  have h' : fit b.bigrams = true := h
  simp [e_laws_toModel, envL, aBox, aLoad, cut, aStore, splice, h', hand_nws, retL, resL, pack]
  refine Rels.release (RelsL.agg (.cons (.sc 3 (isSc_iv _)) (.cons (At.rels (tr_nws b.bigrams (by decide)) ?_ (by decide)) (.nil _))))
  simp

def sameModel (a b : Model) : Bool := decide (a.default = b.default) && decide (a.bigrams.getD [] = b.bigrams.getD [])
theorem ok_laws_eqModel : PureOK Try.prog n_laws_eqModel (G2 (fun b _ : Model => fit b) fun b c => bv (sameModel b c)) :=
  pureG2 (E1 ok_laws_eqBigramS) mixed hb_laws_eqModel fun b c h => by
  have h' : fit b.bigrams = true := h
  simp [e_laws_eqModel, envL, aBox, aLoad, cut, h', sameModel]

def isPage (l : List Box) : Bool := decide (l.length ≤ 60) && l.all validBox
theorem not_any_not {A : Type} (p : A → Bool) (l : List A) : (!l.any fun a => !p a) = l.all p := by
  induction l with
  | nil => rfl
  | cons a l ih => simp [← ih]

def isLow (b : UInt8) : Bool := decide ((97 : Int) ≤ (b.toNat : Int)) && decide ((b.toNat : Int) ≤ 122)

theorem ok_impl_isLetter : PureOK Try.prog n_impl_isLetter (T1 isLow) := pureT1 E0 mixed hb_impl_isLetter fun b => by
  simp [e_impl_isLetter, isLow]

theorem ok_spec_l01Small : PureOK Try.prog n_spec_l01Small (T1 isLow) := pureT1 E0 mixed hb_spec_l01Small fun b => by
  simp [e_spec_l01Small, isLow]

def isWord (s : ByteArray) : Bool := (bl s).all isLow && (decide (1 ≤ s.size) && decide (s.size ≤ 10))

theorem ok_impl_isCost : PureOK Try.prog n_impl_isCost (T1 fun y => within y 0 1000000) := pureT1 (E1 ok_impl_within) mixed hb_impl_isCost fun y => by
  simp [e_impl_isCost, envL]

theorem lp_impl_IsWord (env : Nat → Contract) (he : env n_impl_isLetter = .pure (T1 isLow)) {y1 y3 y5 y16 y17 y18 y19 y20 y21 y22 y23 : AV} (s : ByteArray) (hs : s.size ≤ 4294967296) :
    (obind (loopP hm0_impl_IsWord xm0_impl_IsWord (lb0_impl_IsWord env) [sv s, y1, .top, y3, .top, y5, .sl 0 s.size 0 s.size, iv (s.size : Nat), iv 0, .top, .top, .top, .top, .top, .top, .top, y16, y17, y18, y19, y20, y21, y22, y23] [⟨1, (bl s).map Row.cells⟩]) fun r => lk0_impl_IsWord env r.1 r.2.1 r.2.2) = some (bv (isWord s), [⟨1, (bl s).map Row.cells⟩]) := by
  have T : Tab [⟨1, (bl s).map Row.cells⟩] (.sl 0 s.size 0 s.size) (some (bl s)) := Tab.sl rfl (bl_len s) (bl_len s).symm
  have ti := T.idx
  simp at ti
  have hl : (bl s).length ≤ maxLen := by rw [bl_len, maxLen_eq]; omega
  have L := loop_over (bl s) hl (hmk := hm0_impl_IsWord) (xm := xm0_impl_IsWord) (body := lb0_impl_IsWord env) (K := fun r => lk0_impl_IsWord env r.1 r.2.1 r.2.2) (σ := Unit) (fun _ (i : Nat) => [sv s, y1, .top, y3, .top, y5, .sl 0 s.size 0 s.size, iv (s.size : Nat), iv (i : Nat), .top, .top, .top, .top, .top, .top, .top, y16, y17, y18, y19, y20, y21, y22, y23]) (fun _ => [⟨1, (bl s).map Row.cells⟩])
    (fun _ suf => (bl s).all isLow = suf.all isLow) (fun _ _ => some (bv (isWord s), [⟨1, (bl s).map Row.cells⟩]))
    (fun pre k suf u hl hi S => by
      have S1 := S.idx
      have S2 := S.lt
      have S3 := S.elt
      simp at S1 S2 S3
      cases hk : isLow k
      · left
        have hw : isWord s = false := by simp only [isWord, hi]; simp [hk]
        rw [loopP.eq_1, hw]
        simp [e_lb0_impl_IsWord, ti, T.load, S1, S2, S3, cut, S.wr, he, hk, restr, e_lk0r_impl_IsWord]
      · right
        refine ⟨(), by rw [hi]; simp [hk], ?_, rfl⟩
        rw [loopP.eq_1]
        simp [e_lb0_impl_IsWord, ti, T.load, S1, S2, S3, cut, S.wr, he, hk, restr])
    (fun u hi => by
      have c1 : ((1 : Int) ≤ ((s.size : Nat) : Int)) = (1 ≤ s.size) := propext ⟨by omega, by omega⟩
      have c2 : (((s.size : Nat) : Int) ≤ 10) = (s.size ≤ 10) := propext ⟨by omega, by omega⟩
      have : isWord s = (decide (1 ≤ s.size) && decide (s.size ≤ 10)) := by simp only [isWord, hi]; simp
      rw [loopP.eq_1, this]
      simp [e_lb0_impl_IsWord, restr, e_lk0x0_impl_IsWord, c1, c2]) () rfl
  simpa using L
theorem ok_impl_IsWord : PureOK Try.prog n_impl_IsWord (G1 (fun s : ByteArray => fit s) fun s => bv (isWord s)) :=
  pureG1 (E1 ok_impl_isLetter) mixed hb_impl_IsWord fun s hs => by
  have hs' := (fit_str s).1 hs
  have L := fun env he {y1 y3 y5 y16 y17 y18 y19 y20 y21 y22 y23} => @lp_impl_IsWord env he y1 y3 y5 y16 y17 y18 y19 y20 y21 y22 y23 s hs'
  have C := conv_bytes s [] hs'
  simp at C
  simp [e_impl_IsWord, C, L, envL]

theorem lp_spec_IsWord (env : Nat → Contract) (he : env n_spec_l01Small = .pure (T1 isLow)) (hf : env n_spec_l00In = .pure (T3 within)) {y1 y15 y16 y17 : AV} (s : ByteArray) (hs : s.size ≤ 4294967296) :
    (obind (loopP hm0_spec_IsWord xm0_spec_IsWord (lb0_spec_IsWord env) [sv s, y1, .top, iv 0, .top, .top, .top, .top, .top, .top, .top, .top, .top, .top, .top, y15, y16, y17] []) fun r => lk0_spec_IsWord env r.1 r.2.1 r.2.2) = some (bv (isWord s), []) := by
  have hl : (bl s).length ≤ maxLen := by rw [bl_len, maxLen_eq]; omega
  have L := loop_over (bl s) hl (hmk := hm0_spec_IsWord) (xm := xm0_spec_IsWord) (body := lb0_spec_IsWord env) (K := fun r => lk0_spec_IsWord env r.1 r.2.1 r.2.2) (σ := Unit) (fun _ (i : Nat) => [sv s, y1, .top, iv (i : Nat), .top, .top, .top, .top, .top, .top, .top, .top, .top, .top, .top, y15, y16, y17]) (fun _ => [])
    (fun _ suf => (bl s).all isLow = suf.all isLow) (fun _ _ => some (bv (isWord s), []))
    (fun pre k suf u hl hi S => by
      have S1 := S.idx
      have S2 := S.lt
      have S3 := S.elt
      simp at S1 S2 S3
      cases hk : isLow k
      · left
        have hw : isWord s = false := by simp only [isWord, hi]; simp [hk]
        rw [loopP.eq_1, hw]
        simp [e_lb0_spec_IsWord, idx_str, S1, S2, S3, S.wr, he, hk, restr, e_lk0r_spec_IsWord]
      · right
        refine ⟨(), by rw [hi]; simp [hk], ?_, rfl⟩
        rw [loopP.eq_1]
        simp [e_lb0_spec_IsWord, idx_str, S1, S2, S3, S.wr, he, hk, restr])
    (fun u hi => by
      have c1 : ((1 : Int) ≤ ((s.size : Nat) : Int)) = (1 ≤ s.size) := propext ⟨by omega, by omega⟩
      have c2 : (((s.size : Nat) : Int) ≤ 10) = (s.size ≤ 10) := propext ⟨by omega, by omega⟩
      have : isWord s = (decide (1 ≤ s.size) && decide (s.size ≤ 10)) := by simp only [isWord, hi]; simp
      rw [loopP.eq_1, this]
      simp [e_lb0_spec_IsWord, restr, e_lk0x0_spec_IsWord, hf, within, c1, c2]) () rfl
  simpa using L
theorem ok_spec_IsWord : PureOK Try.prog n_spec_IsWord (G1 (fun s : ByteArray => fit s) fun s => bv (isWord s)) :=
  pureG1 (E2 ok_spec_l01Small ok_spec_l00In) mixed hb_spec_IsWord fun s hs => by
  have hs' := (fit_str s).1 hs
  have L := fun env he hf {y1 y15 y16 y17} => @lp_spec_IsWord env he hf y1 y15 y16 y17 s hs'
  simp [e_spec_IsWord, L, envL]

def isFirst (s : ByteArray) : Bool := decide (s = ⟨#[]⟩) || isWord s
def validBigram (b : Bigram) : Bool := isWord b.second && (isFirst b.first && within b.cost 0 1000000)
theorem fit_bigram {b : Bigram} (h : fit b = true) : fit b.first = true ∧ fit b.second = true := by
  rw [fit_iff, wt_Bigram] at h
  rw [fit_iff, fit_iff]
  omega

theorem ok_impl_validBigram : PureOK Try.prog n_impl_validBigram (G1 (fun b : Bigram => fit b) fun b => bv (validBigram b)) :=
  pureG1 (E2 ok_impl_IsWord ok_impl_isCost) mixed hb_impl_validBigram fun b h => by
  obtain ⟨h1, h2⟩ := fit_bigram h
  simp [e_impl_validBigram, envL, aBox, aLoad, cut, validBigram, isFirst]
  cases w1 : isWord b.second <;> by_cases w2 : b.first = ⟨#[]⟩ <;> cases w3 : isWord b.first <;> simp [h1, h2, w1, w2, w3]

theorem ok_spec_l18First : PureOK Try.prog n_spec_l18First (G1 (fun b : ByteArray => fit b) fun b => bv (isFirst b)) :=
  pureG1 (E1 ok_spec_IsWord) mixed hb_spec_l18First fun b h => by
  by_cases w2 : b = ⟨#[]⟩ <;> simp [e_spec_l18First, envL, isFirst, w2, h]

theorem ok_spec_l18Bigram : PureOK Try.prog n_spec_l18Bigram (G1 (fun p : Pt Bigram => decide (p.i < p.tab.length) && p.tab.all fit) fun p => bv ((p.tab[p.i]?.map validBigram).getD false)) :=
  pureG1 (E3 ok_spec_l18First ok_spec_IsWord ok_spec_l00In) mixed hb_spec_l18Bigram fun p h => by
  obtain ⟨l, i⟩ := p
  simp only [Bool.and_eq_true, decide_eq_true_eq, List.all_eq_true] at h
  obtain ⟨hi, hf⟩ := h
  obtain ⟨b, hb⟩ : ∃ b, l[i]'hi = b := ⟨_, rfl⟩
  obtain ⟨h1, h2⟩ := fit_bigram (hf b (by rw [← hb]; exact List.getElem_mem hi))
  have L := fun g n j h => load_fptr (A := Bigram) g n 3 i j l h
  simp [e_spec_l18Bigram, envL, L, hi, hb, cut, validBigram]
  cases w1 : isFirst b.first <;> cases w2 : isWord b.second <;> simp [h1, h2, w1, w2]

def before (a b : Bigram) : Bool := ltS a.first b.first || (decide (a.first = b.first) && ltS a.second b.second)
def beforeAt (l : List Bigram) (i j : Nat) : Bool := match l[i]?, l[j]? with
  | some a, some b => before a b
  | _, _ => false
theorem ok_spec_l18Before : PureOK Try.prog n_spec_l18Before (G2 (fun p q : Pt Bigram => decide (p.i < p.tab.length) && decide (q.i < q.tab.length)) fun p q => bv (match p.tab[p.i]?, q.tab[q.i]? with
    | some a, some b => before a b
    | _, _ => false)) :=
  pureG2 E0 mixed hb_spec_l18Before fun p q h => by
  obtain ⟨l, i⟩ := p
  obtain ⟨m, j⟩ := q
  simp at h
  obtain ⟨hi, hj⟩ := h
  obtain ⟨a, ha⟩ : ∃ b, l[i]'hi = b := ⟨_, rfl⟩
  obtain ⟨b, hb⟩ : ∃ b, m[j]'hj = b := ⟨_, rfl⟩
  have L := fun g n j h => load_fptr (A := Bigram) g n 3 i j l h
  have M := fun g n k h => load_fptr (A := Bigram) g n 3 j k m h
  cases w1 : ltS a.first b.first
  · simp [e_spec_l18Before, L, M, hi, hj, ha, hb, cut, before, w1]
    cases decide (a.first = b.first) <;> simp [L, M, hi, hj, ha, hb, cut]
  · simp [e_spec_l18Before, L, M, hi, hj, ha, hb, cut, before, w1]

def cmpS (a b : ByteArray) : Int := bif ltS a b then -1 else bif decide (a = b) then 0 else 1
theorem ok_cmp_isNaN_string : PureOK Try.prog n_cmp_isNaN_string (T1 fun _ : ByteArray => false) := pureT1 E0 mixed hb_cmp_isNaN_string fun a => by
  simp [e_cmp_isNaN_string]

theorem ok_cmp_Compare_string : PureOK Try.prog n_cmp_Compare_string (T2 cmpS) := pureT2 (E1 ok_cmp_isNaN_string) mixed hb_cmp_Compare_string fun a b => by
  cases w1 : ltS a b <;> by_cases w2 : a = b <;> simp [e_cmp_Compare_string, envL, cmpS, w1, w2]
  all_goals simp_all

def orI : List Int → Int
  | [] => 0
  | a :: l => bif decide (a = 0) then orI l else a

theorem lp_cmp_Or_int (env : Nat → Contract) {y0 y1 y4 y17 : AV} (q : Sl Int) (hq : fit q = true) :
    (obind (loopP hm0_cmp_Or_int xm0_cmp_Or_int (lb0_cmp_Or_int env) [y0, y1, .top, iv 0, y4, .top, Sl.enc q, iv ((q.getD []).length : Nat), iv 0, .top, .top, .top, .top, .top, .top, .top, .top, y17] []) fun r => lk0_cmp_Or_int env r.1 r.2.1 r.2.2) = some (iv (orI (q.getD [])), []) := by
  have T := lookT q (w := 1) rfl
  have L := loop_over (q.getD []) (fit_max hq) (hmk := hm0_cmp_Or_int) (xm := xm0_cmp_Or_int) (body := lb0_cmp_Or_int env) (K := fun r => lk0_cmp_Or_int env r.1 r.2.1 r.2.2) (σ := Unit) (fun _ (i : Nat) => [y0, y1, .top, iv 0, y4, .top, Sl.enc q, iv ((q.getD []).length : Nat), iv (i : Nat), .top, .top, .top, .top, .top, .top, .top, .top, y17]) (fun _ => [])
    (fun _ _ => True) (fun _ suf => some (iv (orI suf), []))
    (fun pre k suf u hl hi S => by
      by_cases hk : k = 0
      · right
        refine ⟨(), trivial, ?_, by simp [orI, hk]⟩
        rw [loopP.eq_1]
        simp [e_lb0_cmp_Or_int, T.len, T.idx, T.load, S.idx, S.lt, S.elt, cut, S.wr, hk, restr]
      · left
        rw [loopP.eq_1]
        simp [e_lb0_cmp_Or_int, T.len, T.idx, T.load, S.idx, S.lt, S.elt, cut, S.wr, hk, restr, e_lk0r_cmp_Or_int, orI])
    (fun u hi => by
      rw [loopP.eq_1]
      simp [e_lb0_cmp_Or_int, T.len, restr, e_lk0x0_cmp_Or_int, orI]) () trivial
  simpa using L
theorem ok_cmp_Or_int : PureOK Try.prog n_cmp_Or_int (G1 (fun q : Sl Int => fit q) fun q => iv (orI (q.getD []))) :=
  pureG1 E0 mixed hb_cmp_Or_int fun q hq => by
  have T := lookT q (w := 1) rfl
  have L := fun env {y0 y1 y4 y17} => @lp_cmp_Or_int env y0 y1 y4 y17 q hq
  simp [e_cmp_Or_int, T.len, L]

def cmpB (a b : Bigram) : Int := orI [cmpS a.first b.first, cmpS a.second b.second]
theorem cmpB_before (a b : Bigram) : decide (0 ≤ cmpB a b) = !before a b := by
  unfold cmpB before cmpS orI orI orI
  cases ltS a.first b.first <;> by_cases h : a.first = b.first <;> cases ltS a.second b.second <;> by_cases h2 : a.second = b.second <;> simp [h, h2]

theorem ok_impl_compareBigrams : PureOK Try.prog n_impl_compareBigrams (T2 cmpB) := pureT2 (E2 ok_cmp_Compare_string ok_cmp_Or_int) mixed hb_impl_compareBigrams fun a b => by
  have S := fun (M N : AObj) => snapD_sl (A := Int) [M, N, ⟨1, [[iv (cmpS a.first b.first)], [iv (cmpS a.second b.second)]]⟩] (o := 2) (ep := 2) (n := 2) [cmpS a.first b.first, cmpS a.second b.second] rfl rfl rfl
  have f : fit (some [cmpS a.first b.first, cmpS a.second b.second] : Sl Int) = true := rfl
  simp [e_impl_compareBigrams, envL, aBox, aLoad, cut, aBuildSlice, zrows, aFillRows, S, f, cmpB]

def badBig (l : List Bigram) (i : Nat) : Bool := match l[i]? with
  | some b => !validBigram b || (decide (0 < i) && match l[i - 1]? with
    | some a => !before a b
    | none => false)
  | none => false
def validModel (m : Model) : Bool := !(List.range (m.bigrams.getD []).length).any (badBig (m.bigrams.getD [])) && (within m.default 0 1000000 && decide ((m.bigrams.getD []).length ≤ 60))

theorem lp_impl_ValidModel (env : Nat → Contract) (he : env n_impl_validBigram = .pure (G1 (fun b : Bigram => fit b) fun b => bv (validBigram b))) (hf : env n_impl_compareBigrams = .pure (T2 cmpB)) (hg : env n_impl_isCost = .pure (T1 fun y => within y 0 1000000)) {y0 y5 y32 y33 y34 y35 y36 y37 y38 y39 y40 : AV} (d : Int) (q : Sl Bigram) (hq : fit q = true) (t : Heap) :
    ((fun (i : Nat) (t : Heap) => (obind (loopP hm0_impl_ValidModel xm0_impl_ValidModel (lb0_impl_ValidModel env) [y0, .ptr 0 1 0 0, .top, .top, .top, y5, Sl.enc q, iv ((q.getD []).length : Nat), iv (i : Nat), .top, .top, .top, .top, .top, .top, .top, .top, .top, .top, .top, .top, .top, .top, .top, .top, .top, .top, .top, .top, .top, .top, .top, y32, y33, y34, y35, y36, y37, y38, y39, y40] (⟨2, [[iv d, Sl.enc q]]⟩ :: t)) fun r => lk0_impl_ValidModel env r.1 r.2.1 r.2.2).map Prod.fst) 0 t) = some (bv (validModel ⟨d, q⟩)) := by
  have T := lookT q (w := 3) rfl
  have e : bv (validModel ⟨d, q⟩) = bif (List.range (q.getD []).length).any (badBig (q.getD [])) then bv false else bv (within d 0 1000000 && decide ((q.getD []).length ≤ 60)) := by
    unfold validModel
    cases (List.range (q.getD []).length).any (badBig (q.getD [])) <;> simp
  rw [e]
  refine loop_any (q.getD []).length (badBig (q.getD [])) (fun (i : Nat) (t : Heap) => (obind (loopP hm0_impl_ValidModel xm0_impl_ValidModel (lb0_impl_ValidModel env) [y0, .ptr 0 1 0 0, .top, .top, .top, y5, Sl.enc q, iv ((q.getD []).length : Nat), iv (i : Nat), .top, .top, .top, .top, .top, .top, .top, .top, .top, .top, .top, .top, .top, .top, .top, .top, .top, .top, .top, .top, .top, .top, .top, y32, y33, y34, y35, y36, y37, y38, y39, y40] (⟨2, [[iv d, Sl.enc q]]⟩ :: t)) fun r => lk0_impl_ValidModel env r.1 r.2.1 r.2.2).map Prod.fst) _ _ (fun i t hi => ?_) (fun t => ?_) t
  · have I := Ix.mk' hi (fit_max hq)
    obtain ⟨b, hb⟩ : ∃ b, (q.getD [])[i]'I.lt = b := ⟨_, rfl⟩
    have hfb : fit b = true := fit_mem hq (by rw [← hb]; exact List.getElem_mem I.lt)
    refine ⟨t ++ [⟨3, [Row.cells b]⟩], ?_⟩
    have st1 := store_end1 3 3 [sv ⟨#[]⟩, sv ⟨#[]⟩, iv 0] (.agg [sv b.first, sv b.second, iv b.cost]) ⟨2, [[iv d, Sl.enc q]]⟩ t rfl rfl (by simp)
    simp at st1
    rw [loopP.eq_1]
    cases h1 : validBigram b
    · simp [e_lb0_impl_ValidModel, T.len, T.idx, T.load, T.fld, I.idx, I.lt, hb, cut, I.wr, he, hfb, aBox, st1, load_end1, restr, e_lk0r_impl_ValidModel, h1, badBig]
    · by_cases h3 : 0 < i
      · obtain ⟨p1, p2, p3⟩ := ix_prev I.lt (fit_max hq) h3
        obtain ⟨a, ha⟩ : ∃ b, (q.getD [])[i - 1]'p3 = b := ⟨_, rfl⟩
        have hc := cmpB_before a b
        cases h4 : before a b
        · rw [h4] at hc
          simp at hc
          simp [e_lb0_impl_ValidModel, T.len, T.idx, T.load, T.fld, I.idx, I.lt, hb, cut, I.wr, he, hf, hfb, aBox, st1, load_end1, restr, e_lk0r_impl_ValidModel, h1, h3, p1, p2, p3, ha, hc, h4, badBig]
        · rw [h4] at hc
          simp at hc
          have hc' : ¬ 0 ≤ cmpB a b := by omega
          simp [e_lb0_impl_ValidModel, T.len, T.idx, T.load, T.fld, I.idx, I.lt, hb, cut, I.wr, he, hf, hfb, aBox, st1, load_end1, restr, e_lk0r_impl_ValidModel, h1, h3, p1, p2, p3, ha, hc', h4, badBig]
      · simp [e_lb0_impl_ValidModel, T.len, T.idx, T.load, T.fld, I.idx, I.lt, hb, cut, I.wr, he, hf, hfb, aBox, st1, load_end1, restr, e_lk0r_impl_ValidModel, h1, h3, badBig]
  · have c60 : ((((q.getD []).length : Nat) : Int) ≤ 60) = ((q.getD []).length ≤ 60) := propext ⟨by omega, by omega⟩
    rw [loopP.eq_1]
    cases h1 : within d 0 1000000 <;> simp [e_lb0_impl_ValidModel, T.len, restr, e_lk0x0_impl_ValidModel, hg, h1, cut, c60]
theorem ok_impl_ValidModel : PureOK Try.prog n_impl_ValidModel (G1 (fun b : Model => fit b) fun b => bv (validModel b)) :=
  pureG1 (E3 ok_impl_validBigram ok_impl_compareBigrams ok_impl_isCost) mixed hb_impl_ValidModel fun b h => by
  obtain ⟨d, q⟩ := b
  refine plain_of rfl ?_
  have T := lookT q (w := 3) rfl
  have L := fun env he hf hg {y0 y5 y32 y33 y34 y35 y36 y37 y38 y39 y40} t => @lp_impl_ValidModel env he hf hg y0 y5 y32 y33 y34 y35 y36 y37 y38 y39 y40 d q h t
  simp at L
  simp [e_impl_ValidModel, aBox, cut, T.len, L, envL]

theorem lp_spec_l18Ok (env : Nat → Contract) (he : env n_spec_l18Bigram = .pure (G1 (fun p : Pt Bigram => decide (p.i < p.tab.length) && p.tab.all fit) fun p => bv ((p.tab[p.i]?.map validBigram).getD false))) (hf : env n_spec_l18Before = .pure (G2 (fun p q : Pt Bigram => decide (p.i < p.tab.length) && decide (q.i < q.tab.length)) fun p q => bv (match p.tab[p.i]?, q.tab[q.i]? with
    | some a, some b => before a b
    | _, _ => false))) (hg : env n_spec_l00In = .pure (T3 within)) {y1 y42 y43 y44 y45 y46 y47 y48 y49 y50 y51 y52 y53 y54 : AV} (d : Int) (q : Sl Bigram) (hq : fit q = true) (t : Heap) :
    ((fun (i : Nat) (t : Heap) => (obind (loopP hm0_spec_l18Ok xm0_spec_l18Ok (lb0_spec_l18Ok env) [.fptr 2 [[iv d, Sl.enc q]] 0 0, y1, .top, iv (i : Nat), .top, .top, .top, .top, .top, .top, .top, .top, .top, .top, .top, .top, .top, .top, .top, .top, .top, .top, .top, .top, .top, .top, .top, .top, .top, .top, .top, .top, .top, .top, .top, .top, .top, .top, .top, .top, .top, .top, y42, y43, y44, y45, y46, y47, y48, y49, y50, y51, y52, y53, y54] t) fun r => lk0_spec_l18Ok env r.1 r.2.1 r.2.2).map Prod.fst) 0 t) = some (bv (validModel ⟨d, q⟩)) := by
  have T := lookT q (w := 3) rfl
  have e : bv (validModel ⟨d, q⟩) = bif (List.range (q.getD []).length).any (badBig (q.getD [])) then bv false else bv (within d 0 1000000 && decide ((q.getD []).length ≤ 60)) := by
    unfold validModel
    cases (List.range (q.getD []).length).any (badBig (q.getD [])) <;> simp
  have c1 : ∀ h, aLoad false 1 (.fptr 2 [[iv d, Sl.enc q]] 0 1) h = some (Sl.enc q) := fun _ => rfl
  have c0 : ∀ h, aLoad false 1 (.fptr 2 [[iv d, Sl.enc q]] 0 0) h = some (iv d) := fun _ => rfl
  have fa : (q.getD []).all fit = true := List.all_eq_true.2 fun x hx => fit_mem hq hx
  rw [e]
  refine loop_any (q.getD []).length (badBig (q.getD [])) (fun (i : Nat) (t : Heap) => (obind (loopP hm0_spec_l18Ok xm0_spec_l18Ok (lb0_spec_l18Ok env) [.fptr 2 [[iv d, Sl.enc q]] 0 0, y1, .top, iv (i : Nat), .top, .top, .top, .top, .top, .top, .top, .top, .top, .top, .top, .top, .top, .top, .top, .top, .top, .top, .top, .top, .top, .top, .top, .top, .top, .top, .top, .top, .top, .top, .top, .top, .top, .top, .top, .top, .top, .top, y42, y43, y44, y45, y46, y47, y48, y49, y50, y51, y52, y53, y54] t) fun r => lk0_spec_l18Ok env r.1 r.2.1 r.2.2).map Prod.fst) _ _ (fun i t hi => ?_) (fun t => ?_) t
  · have I := Ix.mk' hi (fit_max hq)
    obtain ⟨b, hb⟩ : ∃ b, (q.getD [])[i]'I.lt = b := ⟨_, rfl⟩
    have s1 := fun h => snapD_elp h q hi
    refine ⟨t, ?_⟩
    rw [loopP.eq_1]
    cases h1 : validBigram b
    · simp [e_lb0_spec_l18Ok, c1, T.len, T.idx, T.load, T.fld, I.idx, I.lt, hb, cut, I.wr, he, s1, fa, restr, e_lk0r_spec_l18Ok, h1, badBig]

    · by_cases h3 : 0 < i
      · obtain ⟨p1, p2, p3⟩ := ix_prev I.lt (fit_max hq) h3
        obtain ⟨a, ha⟩ : ∃ b, (q.getD [])[i - 1]'p3 = b := ⟨_, rfl⟩
        have s2 := fun h => snapD_elp h q p3
        cases h4 : before a b <;>
          simp [e_lb0_spec_l18Ok, c1, T.len, T.idx, T.load, T.fld, I.idx, I.lt, hb, cut, I.wr, he, hf, s1, s2, fa, restr, e_lk0r_spec_l18Ok, h1, h3, p1, p2, p3, ha, h4, badBig]
      · simp [e_lb0_spec_l18Ok, c1, T.len, T.idx, T.load, T.fld, I.idx, I.lt, hb, cut, I.wr, he, s1, fa, restr, e_lk0r_spec_l18Ok, h1, h3, badBig]
  · have c60 : ((((q.getD []).length : Nat) : Int) ≤ 60) = ((q.getD []).length ≤ 60) := propext ⟨by omega, by omega⟩
    rw [loopP.eq_1]
    cases h1 : within d 0 1000000 <;> simp [e_lb0_spec_l18Ok, c0, c1, T.len, restr, e_lk0x0_spec_l18Ok, hg, h1, cut, c60]
theorem ok_spec_l18Ok : PureOK Try.prog n_spec_l18Ok (G1 (fun b : Ref Model => fit b.val) fun b => bv (validModel b.val)) :=
  pureG1 (E3 ok_spec_l18Bigram ok_spec_l18Before ok_spec_l00In) mixed hb_spec_l18Ok fun b h => by
  obtain ⟨⟨d, q⟩⟩ := b
  refine plain_of rfl ?_
  have L := fun env he hf hg {y1 y42 y43 y44 y45 y46 y47 y48 y49 y50 y51 y52 y53 y54} t => @lp_spec_l18Ok env he hf hg y1 y42 y43 y44 y45 y46 y47 y48 y49 y50 y51 y52 y53 y54 d q h t
  simp at L
  simp [e_spec_l18Ok, L, envL]

theorem ok_spec_ValidModel : PureOK Try.prog n_spec_ValidModel (G1 (fun b : Model => fit b) fun b => bv (validModel b)) :=
  pureG1 (E1 ok_spec_l18Ok) mixed hb_spec_ValidModel fun b h => by
  have r0 : snapD [⟨2, [[iv b.default, Sl.enc b.bigrams]]⟩] (.ptr 0 1 0 0) = some (⟨b⟩ : Ref Model) := snapD_ref b rfl (by simp [omap])
  simp [e_spec_ValidModel, envL, aBox, r0, h]

theorem sameModel_self (a : Model) : sameModel a a = true := by simp [sameModel]
theorem ok_laws_FnExactValidModel : PureOK Try.prog n_laws_FnExactValidModel (G1 (fun a : Model => Wt.big a) fun _ => bv true) :=
  pureG1 (E5 ok_laws_szModel ok_laws_toModel ok_spec_ValidModel ok_impl_ValidModel ok_laws_eqModel) mixed hb_laws_FnExactValidModel fun a h => by
  have s1 : szOK a 1048576 = true := by simp [szOK, h]
  by_cases h1 : (1048576 : Int) < (Wt.wt a : Nat)
  · simp [e_laws_FnExactValidModel, envL, aBox, aLoad, cut, s1, szR_lt h1]
  · have r1 : ¬ (1048576 : Int) - (Wt.wt a : Nat) < 0 := by omega
    have f1 : fit a = true := fit_wt h1 (by decide)
    simp [e_laws_FnExactValidModel, envL, aBox, aLoad, cut, s1, szR_ge h1, r1, f1, aStore, splice, hand_nag, snapD_nag, fit_norm f1, sameModel_self]
theorem law_FnExactValidModel (a : Model) (ha : Row.fine a) : G1 (fun a : Model => Wt.big a) (fun _ => bv true) [enc a] = some (bv true) := G1_enc _ _ a (Wt.fb a ha)

structure U64 where
  val : Nat
instance : Cod U64 where
  enc u := .sc (.int .u64 (u.val : Int))
  dec | .sc (.int .u64 n) => if 0 ≤ n then some ⟨n.toNat⟩ else none
      | _ => none
  de u := by simp
  ed x a h := by
    split at h
    · split at h
      · rename_i n hn
        cases h
        simp only
        congr 2
        omega
      · cases h
    · cases h
theorem u_geq (n m : Nat) : aBin .geq (.sc (.int .u64 (n : Int))) (.sc (.int .u64 (m : Int))) = some (bv (decide (m ≤ n))) := by
  have : aBin .geq (.sc (.int .u64 (n : Int))) (.sc (.int .u64 (m : Int))) = some (bv (decide ((m : Int) ≤ (n : Int)))) := rfl
  rw [this]
  congr 3
  exact propext ⟨by omega, by omega⟩
theorem u_shr (n m : Nat) (hm : m ≤ 64) : aBin .shr (.sc (.int .u64 (n : Int))) (.sc (.int .u64 (m : Int))) = some (.sc (.int .u64 ((n / 2 ^ m : Nat) : Int))) := by
  have h0 : aBin .shr (.sc (.int .u64 (n : Int))) (.sc (.int .u64 (m : Int))) = if (0 : Int) ≤ (m : Int) then some (.sc (.int .u64 ((n : Int).fdiv (2 ^ (min ((m : Int)).toNat IntKind.u64.bits))))) else none := rfl
  rw [h0, if_pos (by omega)]
  have h1 : min ((m : Int)).toNat IntKind.u64.bits = m := by
    have : IntKind.u64.bits = 64 := rfl
    rw [this, Int.toNat_natCast]
    omega
  rw [h1, Int.fdiv_eq_ediv_of_nonneg _ (by exact Int.le_of_lt (Int.pow_pos (by decide)))]
  simp
theorem u_conv8 (n : Nat) (h : n < 256) : aConvInt .u8 (.sc (.int .u64 (n : Int))) = some (.sc (.int .u8 (n : Int))) := by
  have h0 : aConvInt .u8 (.sc (.int .u64 (n : Int))) = some (.sc (.int .u8 (IntKind.u8.wrap n))) := rfl
  rw [h0]
  congr 3
  simp only [IntKind.wrap, IntKind.bits, IntKind.signed]
  simp
  omega
theorem conv_i64 (n : Nat) (h : n < 256) : aConvInt .i64 (.sc (.int .u8 (n : Int))) = some (iv (n : Nat)) := by
  have h0 : aConvInt .i64 (.sc (.int .u8 (n : Int))) = some (iv (wr (n : Int))) := rfl
  rw [h0, wr_id (by omega) (by omega)]

theorem less_irr : ∀ x : List UInt8, Op.bytesLess x x = false
  | [] => rfl
  | a :: x => by simp [Op.bytesLess, less_irr x]
theorem less_trans : ∀ x y z : List UInt8, Op.bytesLess x y = true → Op.bytesLess y z = true → Op.bytesLess x z = true
  | _, _, [], _, h => by cases ‹List UInt8› <;> simp [Op.bytesLess] at h
  | _, [], _ :: _, h, _ => by simp [Op.bytesLess] at h
  | [], _ :: _, _ :: _, _, _ => by simp [Op.bytesLess]
  | a :: x, b :: y, c :: z, h1, h2 => by
    simp only [Op.bytesLess, Bool.or_eq_true, decide_eq_true_eq, Bool.and_eq_true, beq_iff_eq] at h1 h2 ⊢
    rcases h1 with h1 | ⟨rfl, h1⟩
    · rcases h2 with h2 | ⟨rfl, h2⟩
      · left
        rw [UInt8.lt_iff_toNat_lt] at *
        omega
      · left; exact h1
    · rcases h2 with h2 | ⟨rfl, h2⟩
      · left; exact h2
      · right; exact ⟨rfl, less_trans x y z h1 h2⟩
theorem ltS_irr (a : ByteArray) : ltS a a = false := less_irr _
theorem ltS_trans {a b c : ByteArray} (h1 : ltS a b = true) (h2 : ltS b c = true) : ltS a c = true := less_trans _ _ _ h1 h2
theorem before_iff (a b : Bigram) : before a b = true ↔ ltS a.first b.first = true ∨ (a.first = b.first ∧ ltS a.second b.second = true) := by simp [before]
theorem before_trans {a b c : Bigram} (h1 : before a b = true) (h2 : before b c = true) : before a c = true := by
  rw [before_iff] at *
  rcases h1 with h1 | ⟨e1, h1⟩
  · rcases h2 with h2 | ⟨e2, h2⟩
    · exact .inl (ltS_trans h1 h2)
    · exact .inl (e2 ▸ h1)
  · rcases h2 with h2 | ⟨e2, h2⟩
    · exact .inl (e1 ▸ h2)
    · exact .inr ⟨e1.trans e2, ltS_trans h1 h2⟩
def sameB (a b : Bigram) : Bool := decide (a.first = b.first) && decide (a.second = b.second)
theorem sameB_not {a b : Bigram} (h : sameB a b = true) : before a b = false := by
  simp [sameB] at h
  simp [before, h.1, h.2, ltS_irr]
theorem sameB_before {a b c : Bigram} (h : sameB b c = true) : before a b = before a c := by
  simp [sameB] at h
  simp [before, h.1, h.2]
theorem cmpB_zero (a b : Bigram) : decide (cmpB a b = 0) = sameB a b := by
  unfold cmpB cmpS orI orI orI sameB
  by_cases h : a.first = b.first <;> by_cases h2 : a.second = b.second
  · simp [h, h2, ltS_irr]
  · cases ltS a.second b.second <;> simp [h, h2, ltS_irr]
  · cases ltS a.first b.first <;> simp [h]
  · cases ltS a.first b.first <;> simp [h]
def srtB (l : List Bigram) : Bool := (List.range l.length).all fun i => decide (i = 0) || beforeAt l (i - 1) i
theorem srt_of {l : List Bigram} (h : srtB l = true) : ∀ (j i : Nat) (hj : j < l.length) (hi : i < j), before (l[i]'(by omega)) l[j] = true := by
  have h1 : ∀ i, i < l.length → i = 0 ∨ beforeAt l (i - 1) i = true := by
    intro i hi
    have := List.all_eq_true.1 h i (by simp [hi])
    simpa using this
  intro j
  induction j with
  | zero => intro i hj hi; omega
  | succ j ih =>
    intro i hj hi
    have h2 : before (l[j]'(by omega)) l[j + 1] = true := by
      rcases h1 (j + 1) hj with e | e
      · omega
      · have hj' : j < l.length := by omega
        simpa [beforeAt, hj, hj'] using e
    by_cases e : i = j
    · subst e; exact h2
    · exact before_trans (ih i (by omega) (by omega)) h2
/-- How many come before the target. -/
def posB (l : List Bigram) (t : Bigram) : Nat := (l.takeWhile fun a => before a t).length
theorem pos_le (l : List Bigram) (t : Bigram) : posB l t ≤ l.length := (List.takeWhile_prefix _).length_le
theorem pos_ok {l : List Bigram} (h : srtB l = true) (t : Bigram) {m : Nat} (hm : m < l.length) : before l[m] t = decide (m < posB l t) := by
  have key : ∀ (l : List Bigram) (p : Bigram → Bool) (m : Nat) (hm : m < l.length), m < (l.takeWhile p).length → p l[m] = true := by
    intro l p
    induction l with
    | nil => intro m hm; simp at hm
    | cons a l ih =>
      intro m hm hw
      cases hp : p a
      · simp [hp] at hw
      · cases m with
        | zero => simpa using hp
        | succ m =>
          simp only [List.takeWhile_cons, hp, if_true, List.length_cons] at hw
          simpa using ih m (by simpa using hm) (by omega)
  have key2 : ∀ (l : List Bigram) (p : Bigram → Bool) (hm : (l.takeWhile p).length < l.length), p (l[(l.takeWhile p).length]'hm) = false := by
    intro l p
    induction l with
    | nil => intro hm; simp at hm
    | cons a l ih =>
      intro hw
      cases hp : p a
      · simp [hp]
      · have hw' : (l.takeWhile p).length < l.length := by
          simp only [List.takeWhile_cons, hp, if_true, List.length_cons] at hw
          omega
        simpa [hp] using ih hw'
  by_cases hp : m < posB l t
  · rw [key l _ m hm hp]
    simp [hp]
  · have hq : posB l t < l.length := by omega
    have e := key2 l (fun a => before a t) hq
    simp only [hp, decide_false]
    cases hb : before l[m] t
    · rfl
    · exfalso
      by_cases e2 : posB l t = m
      · have : before (l[posB l t]'hq) t = true := by simpa [e2] using hb
        have e' : before (l[posB l t]'hq) t = false := e
        rw [this] at e'
        cases e'
      · have := before_trans (srt_of h m (posB l t) hm (by omega)) hb
        have e' : before (l[posB l t]'hq) t = false := e
        rw [this] at e'
        cases e'
def hitB (l : List Bigram) (t : Bigram) : Bool := match l[posB l t]? with
  | some b => sameB b t
  | none => false
theorem hit_find {l : List Bigram} (h : srtB l = true) (t : Bigram) : l.find? (fun b => sameB b t) = bif hitB l t then l[posB l t]? else none := by
  unfold hitB
  by_cases hp : posB l t < l.length
  · simp only [List.getElem?_eq_getElem hp]
    cases hs : sameB l[posB l t] t
    · simp only [cond_false]
      rw [List.find?_eq_none]
      intro x hx
      obtain ⟨j, hj, rfl⟩ := List.getElem_of_mem hx
      intro hsame
      rcases Nat.lt_trichotomy j (posB l t) with e | e | e
      · have h1 := pos_ok h t hj
        rw [sameB_not hsame] at h1
        simp [e] at h1
      · subst e; rw [hs] at hsame; cases hsame
      · have h1 := srt_of h j (posB l t) hj e
        rw [sameB_before hsame] at h1
        have h2 := pos_ok h t hp
        rw [h1] at h2
        simp at h2
    · simp only [cond_true]
      rw [List.find?_eq_some_iff_getElem]
      refine ⟨hs, posB l t, hp, rfl, fun j hj => ?_⟩
      have h1 := pos_ok h t (m := j) (by omega)
      cases hq : sameB l[j] t
      · rfl
      · rw [sameB_not hq] at h1
        simp [hj] at h1
  · have e : l[posB l t]? = none := List.getElem?_eq_none (by omega)
    rw [e]
    simp only [cond_false]
    rw [List.find?_eq_none]
    intro x hx
    obtain ⟨j, hj, rfl⟩ := List.getElem_of_mem hx
    intro hsame
    have h1 := pos_ok h t hj
    rw [sameB_not hsame] at h1
    have : j < posB l t := by omega
    simp [this] at h1

theorem lp_slices_BinarySearchFunc_impl_Bigram_impl_Bigram_impl_Bigram (env : Nat → Contract) (he : env n_impl_compareBigrams = .pure (T2 cmpB)) {y1 y3 y5 y6 y7 y12 y13 y14 y35 y36 y37 y38 y39 y40 y41 y42 y43 y44 y45 y46 y47 y48 : AV} (q : Sl Bigram) (t : Bigram) (hq : fit q = true) (hs : srtB (q.getD []) = true) : ∀ (k lo hi : Nat), hi - lo ≤ k → lo ≤ posB (q.getD []) t → posB (q.getD []) t ≤ hi → hi ≤ (q.getD []).length →
    (obind (loopP hm0_slices_BinarySearchFunc_impl_Bigram_impl_Bigram_impl_Bigram xm0_slices_BinarySearchFunc_impl_Bigram_impl_Bigram_impl_Bigram (lb0_slices_BinarySearchFunc_impl_Bigram_impl_Bigram_impl_Bigram env) [Sl.enc q, y1, .fn n_impl_compareBigrams [], y3, .ptr 0 1 0 0, y5, y6, y7, iv ((q.getD []).length : Nat), iv (lo : Nat), iv (hi : Nat), .top, y12, y13, y14, .top, .top, .top, .top, .top, .top, .top, .top, .top, .top, .top, .top, .top, .top, .top, .top, .top, .top, .top, .top, y35, y36, y37, y38, y39, y40, y41, y42, y43, y44, y45, y46, y47, y48] [⟨3, [[sv t.first, sv t.second, iv t.cost]]⟩]) fun r => lk0_slices_BinarySearchFunc_impl_Bigram_impl_Bigram_impl_Bigram env r.1 r.2.1 r.2.2) = some (.tup [iv (posB (q.getD []) t : Nat), bv (hitB (q.getD []) t)], [⟨3, [[sv t.first, sv t.second, iv t.cost]]⟩]) := by
  have T := lookT q (w := 3) rfl
  have hl := fit_len hq
  have ld : ∀ g n j, aLoad g n (.ptr 0 1 0 j) [⟨3, [[sv t.first, sv t.second, iv t.cost]]⟩] = cut g n ([sv t.first, sv t.second, iv t.cost].drop j) := fun g n j => load_head g n j 3 _ []
  intro k
  have fin : ∀ lo hi, lo = hi → lo ≤ posB (q.getD []) t → posB (q.getD []) t ≤ hi → 
      (obind (loopP hm0_slices_BinarySearchFunc_impl_Bigram_impl_Bigram_impl_Bigram xm0_slices_BinarySearchFunc_impl_Bigram_impl_Bigram_impl_Bigram (lb0_slices_BinarySearchFunc_impl_Bigram_impl_Bigram_impl_Bigram env) [Sl.enc q, y1, .fn n_impl_compareBigrams [], y3, .ptr 0 1 0 0, y5, y6, y7, iv ((q.getD []).length : Nat), iv (lo : Nat), iv (hi : Nat), .top, y12, y13, y14, .top, .top, .top, .top, .top, .top, .top, .top, .top, .top, .top, .top, .top, .top, .top, .top, .top, .top, .top, .top, y35, y36, y37, y38, y39, y40, y41, y42, y43, y44, y45, y46, y47, y48] [⟨3, [[sv t.first, sv t.second, iv t.cost]]⟩]) fun r => lk0_slices_BinarySearchFunc_impl_Bigram_impl_Bigram_impl_Bigram env r.1 r.2.1 r.2.2) = some (.tup [iv (posB (q.getD []) t : Nat), bv (hitB (q.getD []) t)], [⟨3, [[sv t.first, sv t.second, iv t.cost]]⟩]) := by
    intro lo hi e h1 h2
    subst e
    have e : posB (q.getD []) t = lo := by omega
    rw [loopP.eq_1]
    by_cases hp : lo < (q.getD []).length
    · have i1 : idx (iv (lo : Int)) (q.getD []).length = some lo := idx_lt hp
      obtain ⟨b, hb⟩ : ∃ b, (q.getD [])[lo]'hp = b := ⟨_, rfl⟩
      have cz := cmpB_zero b t
      have hh : hitB (q.getD []) t = sameB b t := by simp [hitB, e, hp, hb]
      simp [e_lb0_slices_BinarySearchFunc_impl_Bigram_impl_Bigram_impl_Bigram, restr, e_lk0x0_slices_BinarySearchFunc_impl_Bigram_impl_Bigram_impl_Bigram, hp, T.idx, T.load, i1, hb, cut, ld, he, e, hh, ← cz]
    · have hh : hitB (q.getD []) t = false := by
        have : (q.getD [])[lo]? = none := List.getElem?_eq_none (by omega)
        simp [hitB, e, this]
      simp [e_lb0_slices_BinarySearchFunc_impl_Bigram_impl_Bigram_impl_Bigram, restr, e_lk0x0_slices_BinarySearchFunc_impl_Bigram_impl_Bigram_impl_Bigram, hp, e, hh]
  induction k with
  | zero =>
    intro lo hi h1 h2 h3 h4
    exact fin lo hi (by omega) h2 h3
  | succ k ih =>
    intro lo hi h1 h2 h3 h4
    by_cases e : lo < hi
    · have a1 : wr ((lo : Int) + (hi : Int)) = ((lo + hi : Nat) : Int) := by rw [wr_id (by omega) (by omega)]; omega
      obtain ⟨m, hm⟩ : ∃ m, (lo + hi) / 2 = m := ⟨_, rfl⟩
      have m1 : lo ≤ m := by omega
      have m2 : m < hi := by omega
      have a2 : aConvInt .u64 (iv ((lo + hi : Nat) : Int)) = some (.sc (.int .u64 ((lo + hi : Nat) : Int))) := by
        have h0 : aConvInt .u64 (iv ((lo + hi : Nat) : Int)) = some (.sc (.int .u64 (IntKind.u64.wrap ((lo + hi : Nat) : Int)))) := rfl
        rw [h0]
        congr 3
        simp only [IntKind.wrap, IntKind.bits, IntKind.signed]
        simp only [Bool.false_and, Bool.false_eq_true, if_false]
        omega
      have a3 : aBin .shr (.sc (.int .u64 ((lo + hi : Nat) : Int))) (.sc (.int .u64 1)) = some (.sc (.int .u64 ((m : Nat) : Int))) := by
        rw [← hm]
        exact u_shr (lo + hi) 1 (by decide)
      have a4 : aConvInt .i64 (.sc (.int .u64 ((m : Nat) : Int))) = some (iv ((m : Nat) : Int)) := by
        have h0 : aConvInt .i64 (.sc (.int .u64 ((m : Nat) : Int))) = some (iv (wr ((m : Nat) : Int))) := rfl
        rw [h0, wr_id (by omega) (by omega)]
      have hmn : m < (q.getD []).length := by omega
      have i1 : idx (iv (m : Int)) (q.getD []).length = some m := idx_lt hmn
      obtain ⟨b, hb⟩ : ∃ b, (q.getD [])[m]'hmn = b := ⟨_, rfl⟩
      have pk := pos_ok hs t hmn
      rw [hb] at pk
      have cb := cmpB_before b t
      rw [pk] at cb
      have a5 : wr ((m : Int) + 1) = ((m + 1 : Nat) : Int) := by rw [wr_id (by omega) (by omega)]; omega
      rw [loopP.eq_1]
      by_cases g : m < posB (q.getD []) t
      · have r := ih (m + 1) hi (by omega) (by omega) h3 h4
        have g' : cmpB b t < 0 := by
          simp [g] at cb
          exact cb
        simp [-Int.natCast_add, e_lb0_slices_BinarySearchFunc_impl_Bigram_impl_Bigram_impl_Bigram, e, a1, a2, a3, a4, T.idx, T.load, i1, hmn, hb, cut, ld, he, g', a5, restr]
        exact r
      · have r := ih lo m (by omega) h2 (by omega) (by omega)
        have g' : ¬ cmpB b t < 0 := by
          simp [g] at cb
          omega
        simp [-Int.natCast_add, e_lb0_slices_BinarySearchFunc_impl_Bigram_impl_Bigram_impl_Bigram, e, a1, a2, a3, a4, T.idx, T.load, i1, hmn, hb, cut, ld, he, g', restr]
        exact r
    · exact fin lo hi (by omega) h2 h3
theorem ok_slices_BinarySearchFunc_impl_Bigram_impl_Bigram_impl_Bigram : PureOK Try.prog n_slices_BinarySearchFunc_impl_Bigram_impl_Bigram_impl_Bigram (G3 (fun (q : Sl Bigram) (_ : Bigram) (_ : Clo0 n_impl_compareBigrams) => fit q && srtB (q.getD [])) fun q t _ => enc (((posB (q.getD []) t : Nat) : Int), hitB (q.getD []) t)) :=
  pureG3 (E1 ok_impl_compareBigrams) mixed hb_slices_BinarySearchFunc_impl_Bigram_impl_Bigram_impl_Bigram fun q t c h => by
  simp at h
  have T := lookT q (w := 3) rfl
  have L := fun env he {y1 y3 y5 y6 y7 y12 y13 y14 y35 y36 y37 y38 y39 y40 y41 y42 y43 y44 y45 y46 y47 y48} => @lp_slices_BinarySearchFunc_impl_Bigram_impl_Bigram_impl_Bigram env he y1 y3 y5 y6 y7 y12 y13 y14 y35 y36 y37 y38 y39 y40 y41 y42 y43 y44 y45 y46 y47 y48 q t h.1 h.2 (q.getD []).length 0 (q.getD []).length (by omega) (by omega) (pos_le _ _) (Nat.le_refl _)
  simp at L
  simp [e_slices_BinarySearchFunc_impl_Bigram_impl_Bigram_impl_Bigram, aBox, T.len, L, envL]

def pairCost (m : Model) (f s : ByteArray) : Int := match (m.bigrams.getD []).find? (fun b => sameB b ⟨f, s, 0⟩) with
  | some b => b.cost
  | none => m.default
theorem ok_impl_pairCost : PureOK Try.prog n_impl_pairCost (G3 (fun (m : Model) (_ _ : ByteArray) => fit m && srtB (m.bigrams.getD [])) fun m f s => iv (pairCost m f s)) :=
  pureG3 (E1 ok_slices_BinarySearchFunc_impl_Bigram_impl_Bigram_impl_Bigram) mixed hb_impl_pairCost fun m f s h => by
  simp at h
  have h1 : fit m.bigrams = true := h.1
  have T := lookT m.bigrams (w := 3) rfl
  have hf := hit_find h.2 ⟨f, s, 0⟩
  have ld : ∀ g n j, aLoad g n (.ptr 0 1 0 j) [⟨2, [[iv m.default, Sl.enc m.bigrams]]⟩] = cut g n ([iv m.default, Sl.enc m.bigrams].drop j) := fun g n j => load_head g n j 2 _ []
  cases hh : hitB (m.bigrams.getD []) ⟨f, s, 0⟩
  · rw [hh] at hf
    simp at hf
    have hp : pairCost m f s = m.default := by simp only [pairCost]; rw [show (m.bigrams.getD []).find? (fun b => sameB b ⟨f, s, 0⟩) = none by simpa using hf]
    simp [e_impl_pairCost, envL, aBox, ld, cut, aBuild, aFill, splice, h1, h.2, hh, hp]
  · rw [hh] at hf
    have hlt : posB (m.bigrams.getD []) ⟨f, s, 0⟩ < (m.bigrams.getD []).length := by
      unfold hitB at hh
      rcases Nat.lt_or_ge (posB (m.bigrams.getD []) ⟨f, s, 0⟩) (m.bigrams.getD []).length with h | h
      · exact h
      · rw [List.getElem?_eq_none h] at hh
        cases hh
    obtain ⟨b, hb⟩ : ∃ b, (m.bigrams.getD [])[posB (m.bigrams.getD []) ⟨f, s, 0⟩]'hlt = b := ⟨_, rfl⟩
    have i1 : idx (iv ((posB (m.bigrams.getD []) ⟨f, s, 0⟩ : Nat) : Int)) (m.bigrams.getD []).length = some (posB (m.bigrams.getD []) ⟨f, s, 0⟩) := idx_lt hlt
    have hp : pairCost m f s = b.cost := by
      simp only [pairCost, hf, cond_true, List.getElem?_eq_getElem hlt, hb]
    simp [e_impl_pairCost, envL, aBox, ld, cut, aBuild, aFill, splice, h1, h.2, hh, T.idx, T.fld, T.load, i1, hlt, hb, hp]

theorem lp_spec_l18Pair (env : Nat → Contract) {y3 y4 y5 y47 y48 y49 y50 : AV} (d : Int) (q : Sl Bigram) (f s : ByteArray) (hq : fit q = true) :
    (obind (loopP hm0_spec_l18Pair xm0_spec_l18Pair (lb0_spec_l18Pair env) [.fptr 2 [[iv d, Sl.enc q]] 0 0, sv f, sv s, y3, y4, y5, .top, iv 0, .top, .top, .top, .top, .top, .top, .top, .top, .top, .top, .top, .top, .top, .top, .top, .top, .top, .top, .top, .top, .top, .top, .top, .top, .top, .top, .top, .top, .top, .top, .top, .top, .top, .top, .top, .top, .top, .top, .top, y47, y48, y49, y50] []) fun r => lk0_spec_l18Pair env r.1 r.2.1 r.2.2) = some (iv (pairCost ⟨d, q⟩ f s), []) := by
  have T := lookT q (w := 3) rfl
  have c1 : ∀ h, aLoad false 1 (.fptr 2 [[iv d, Sl.enc q]] 0 1) h = some (Sl.enc q) := fun _ => rfl
  have c0 : ∀ h, aLoad false 1 (.fptr 2 [[iv d, Sl.enc q]] 0 0) h = some (iv d) := fun _ => rfl
  have L := loop_over (q.getD []) (fit_max hq) (hmk := hm0_spec_l18Pair) (xm := xm0_spec_l18Pair) (body := lb0_spec_l18Pair env) (K := fun r => lk0_spec_l18Pair env r.1 r.2.1 r.2.2) (σ := Unit) (fun _ (i : Nat) => [.fptr 2 [[iv d, Sl.enc q]] 0 0, sv f, sv s, y3, y4, y5, .top, iv (i : Nat), .top, .top, .top, .top, .top, .top, .top, .top, .top, .top, .top, .top, .top, .top, .top, .top, .top, .top, .top, .top, .top, .top, .top, .top, .top, .top, .top, .top, .top, .top, .top, .top, .top, .top, .top, .top, .top, .top, .top, y47, y48, y49, y50]) (fun _ => [])
    (fun _ _ => True) (fun _ suf => some (iv (match suf.find? (fun b => sameB b ⟨f, s, 0⟩) with | some b => b.cost | none => d), []))
    (fun pre k suf u hl hi S => by
      cases hk : sameB k ⟨f, s, 0⟩
      · right
        refine ⟨(), trivial, ?_, by simp [hk]⟩
        rw [loopP.eq_1]
        unfold sameB at hk
        by_cases k1 : k.first = f
        · simp [k1] at hk
          simp [e_lb0_spec_l18Pair, c1, T.len, T.idx, T.fld, T.load, S.idx, S.lt, S.elt, cut, S.wr, k1, hk, restr]
        · simp [e_lb0_spec_l18Pair, c1, T.len, T.idx, T.fld, T.load, S.idx, S.lt, S.elt, cut, S.wr, k1, restr]
      · left
        rw [loopP.eq_1]
        have hk' := hk
        unfold sameB at hk'
        simp at hk'
        simp [e_lb0_spec_l18Pair, c1, T.len, T.idx, T.fld, T.load, S.idx, S.lt, S.elt, cut, S.wr, hk'.1, hk'.2, restr, e_lk0r_spec_l18Pair, hk])
    (fun u hi => by
      rw [loopP.eq_1]
      simp [e_lb0_spec_l18Pair, c1, c0, T.len, restr, e_lk0x0_spec_l18Pair]) () trivial
  simpa [pairCost] using L
theorem ok_spec_l18Pair : PureOK Try.prog n_spec_l18Pair (G3 (fun (m : Ref Model) (_ _ : ByteArray) => fit m.val) fun m f s => iv (pairCost m.val f s)) :=
  pureG3 E0 mixed hb_spec_l18Pair fun m f s h => by
  obtain ⟨⟨d, q⟩⟩ := m
  have L := fun env {y3 y4 y5 y47 y48 y49 y50} => @lp_spec_l18Pair env y3 y4 y5 y47 y48 y49 y50 d q f s h
  simp [e_spec_l18Pair, L]

theorem srt_valid {m : Model} (h : validModel m = true) : srtB (m.bigrams.getD []) = true := by
  unfold validModel at h
  simp only [Bool.and_eq_true, Bool.not_eq_true'] at h
  have h1 := List.any_eq_false.1 h.1
  unfold srtB
  rw [List.all_eq_true]
  intro i hi
  have h2 := h1 i hi
  simp at hi
  unfold badBig at h2
  by_cases h0 : i = 0
  · simp [h0]
  · have hp : i - 1 < (m.bigrams.getD []).length := by omega
    have h3 : 0 < i := by omega
    simp [hi, hp, h3] at h2
    simp [h0, beforeAt, hi, hp, h2]
def pairCostX (m : Model) (f s : ByteArray) : Int × Int := bif !validModel m then (0, 1) else bif !(isFirst f && isWord s) then (0, 7) else (pairCost m f s, 0)

theorem lp_laws_szStringS (env : Nat → Contract) {y2 y3 y6 y7 y8 y9 y10 y11 y27 : AV} (q : Sl ByteArray) (hq : Wt.big q = true) (s : Int) (hs : 0 ≤ s ∧ s ≤ 1048576) :
    obind (loopP hm0_laws_szStringS xm0_laws_szStringS (lb0_laws_szStringS env) [Sl.enc q, iv s, y2, y3, .top, iv 0, y6, y7, y8, y9, y10, y11, .top, .top, .top, .top, .top, .top, .top, .top, .top, .top, .top, .top, .top, .top, .top, y27] []) (fun r => lk0_laws_szStringS env r.1 r.2.1 r.2.2) = some (iv (szR s ((q.getD []).map Wt.wt).sum), []) := by
  have T := lookT q (w := 1) rfl
  exact loop_over (q.getD []) (big_len hq) (hmk := hm0_laws_szStringS) (xm := xm0_laws_szStringS) (body := lb0_laws_szStringS env) (K := fun r => lk0_laws_szStringS env r.1 r.2.1 r.2.2) (σ := Int) (fun s (i : Nat) => [Sl.enc q, iv s, y2, y3, .top, iv (i : Nat), y6, y7, y8, y9, y10, y11, .top, .top, .top, .top, .top, .top, .top, .top, .top, .top, .top, .top, .top, .top, .top, y27]) (fun _ => [])
    (fun s _ => 0 ≤ s ∧ s ≤ 1048576) (fun s suf => some (iv (szR s (suf.map Wt.wt).sum), []))
    (fun pre x suf s hl hi S => by
      have hb : Wt.big x = true := big_mem hq (by rw [hl]; simp)
      have hb' : x.size ≤ maxLen := of_decide_eq_true hb
      have hw := sz_len hi.1 hi.2 hb'
      have hx : Wt.wt x = x.size := rfl
      by_cases h : s < (x.size : Nat)
      · left
        rw [loopP.eq_1]
        have h2 := szR_lt' (v := (suf.map Wt.wt).sum) h
        have h3 : s - (x.size : Nat) < 0 := by omega
        simp only [List.map_cons, List.sum_cons, hx, h2]
        simp [e_lb0_laws_szStringS, T.len, T.idx, T.load, S.idx, S.lt, S.elt, cut, S.wr, hw, h3, restr, e_lk0r_laws_szStringS]
      · right
        refine ⟨s - (x.size : Nat), ⟨by omega, by omega⟩, ?_, ?_⟩
        · rw [loopP.eq_1]
          have h3 : ¬ s - (x.size : Nat) < 0 := by omega
          simp [e_lb0_laws_szStringS, T.len, T.idx, T.load, S.idx, S.lt, S.elt, cut, S.wr, hw, h3, restr]
        · simp only [List.map_cons, List.sum_cons, hx, szR_add h])
    (fun s hi => by
      rw [loopP.eq_1]
      have h3 : ¬ s < 0 := by omega
      simp [e_lb0_laws_szStringS, T.len, restr, e_lk0x0_laws_szStringS, szR, h3]) s hs
theorem ok_laws_szStringS : PureOK Try.prog n_laws_szStringS (G2 (fun (q : Sl ByteArray) left => szOK q left) fun q left => iv (szR left (Wt.wt q))) :=
  pureG2 E0 mixed hb_laws_szStringS fun q left h => by
  have T := lookT q (w := 1) rfl
  obtain ⟨h1, h2, h3⟩ := (szOK_iff q left).1 h
  have h4 := sz_len h2 h3 (big_len h1)
  rw [wt_sl]
  by_cases hl : left < ((q.getD []).length : Nat)
  · have h5 : left - ((q.getD []).length : Nat) < 0 := by omega
    simp [e_laws_szStringS, T.len, h4, h5, szR_lt' hl]
  · have h5 : ¬ left - ((q.getD []).length : Nat) < 0 := by omega
    have L := fun env {y2 y3 y6 y7 y8 y9 y10 y11 y27} => @lp_laws_szStringS env y2 y3 y6 y7 y8 y9 y10 y11 y27 q h1 (left - ((q.getD []).length : Nat)) ⟨by omega, by omega⟩
    simp [e_laws_szStringS, T.len, h4, h5, L, szR_add hl]

theorem lp_laws_toStringS (env : Nat → Contract) (q : Sl ByteArray) (hq : fit q = true) : obind (loopP hm0_laws_toStringS xm0_laws_toStringS (lb0_laws_toStringS env) [Sl.enc q, und, nilS, .sl 0 (q.getD []).length 0 (q.getD []).length, iv 0, Sl.enc q, iv ((q.getD []).length : Nat), .sl 0 (q.getD []).length 0 (q.getD []).length, .top, .top, .top, .top, .top, .top, .top, .top, .top, .top, .top, .top, .top, und] [⟨1, List.replicate (q.getD []).length [(sv ⟨#[]⟩)]⟩]) (fun r => lk0_laws_toStringS env r.1 r.2.1 r.2.2) = some (.sl 0 (q.getD []).length 0 (q.getD []).length, mt (nws q) 0) := by
  have T := lookT q (w := 1) rfl
  have L := loop_fill (A := ByteArray) (by decide) (q.getD []) (hm := hm0_laws_toStringS) (xm := xm0_laws_toStringS) (body := lb0_laws_toStringS env) (K := fun r => lk0_laws_toStringS env r.1 r.2.1 r.2.2) [(sv ⟨#[]⟩)] (fun i => [Sl.enc q, und, nilS, .sl 0 (q.getD []).length 0 (q.getD []).length, iv (i : Int), Sl.enc q, iv ((q.getD []).length : Nat), .sl 0 (q.getD []).length 0 (q.getD []).length, .top, .top, .top, .top, .top, .top, .top, .top, .top, .top, .top, .top, .top, und]) (by
    intro pre a suf rows objs hl hr
    have S := Stp.mk' hl (fit_max hq)
    have hn : pre.length + 1 + suf.length = (q.getD []).length := by rw [hl]; simp; omega
    have hfit : fit a = true := fit_mem hq (by rw [hl]; simp)
    have fa := fun objs => fill_addr (w := 1) (rows := rows) (objs := objs) (z := [(sv ⟨#[]⟩)]) hr hn
    have fs := fun objs v => fill_store (w := 1) (rows := rows) (objs := objs) (z := [(sv ⟨#[]⟩)]) (v := v) hr hn rfl
    rw [loopP.eq_1]
    simp [e_lb0_laws_toStringS, T.len, T.idx, T.load, S.idx, S.lt, S.elt, cut, S.wr, fa]
    rw [fs _ _ rfl (by simp)]
    simp [restr])
  simp at L
  rw [L, loopP.eq_1]
  simp [e_lb0_laws_toStringS, T.len, restr, e_lk0x0_laws_toStringS]
  rfl
theorem ok_laws_toStringS : PureOK Try.prog n_laws_toStringS (G1 (fun q : Sl ByteArray => fit q) nws) :=
  pureG1 E0 mixed hb_laws_toStringS fun q hq => by
  have T := lookT q (w := 1) rfl
  have M := make_ok (bytes := 16) [(sv ⟨#[]⟩)] [] (fit_len hq) (by decide)
  simp at M
  have L := fun env => lp_laws_toStringS env q hq
  simp [e_laws_toStringS, T.len, M, L]
  exact release_nws (by decide) q

theorem lp_laws_eqStringS (env : Nat → Contract) (q p : Sl ByteArray) (hq : fit q = true) (hl : (q.getD []).length = (p.getD []).length) : obind (loopP hm0_laws_eqStringS xm0_laws_eqStringS (lb0_laws_eqStringS env) [Sl.enc q, Sl.enc p, und, und, .top, iv 0, Sl.enc q, iv ((q.getD []).length : Nat), Sl.enc p, iv ((p.getD []).length : Nat), bv false, .top, .top, .top, .top, .top, .top, .top, .top, .top, .top, .top, .top, .top, .top, .top] []) (fun r => lk0_laws_eqStringS env r.1 r.2.1 r.2.2) = some (bif decide (q.getD [] = p.getD []) then (bv true, []) else (bv false, [])) := by
  have T := lookT q (w := 1) rfl
  have U := lookT p (w := 1) rfl
  have L := loop_eq (A := ByteArray) hl (fit_max hq) (hmk := hm0_laws_eqStringS) (xm := xm0_laws_eqStringS) (body := lb0_laws_eqStringS env) (K := fun r => lk0_laws_eqStringS env r.1 r.2.1 r.2.2) [] (fun i => [Sl.enc q, Sl.enc p, und, und, .top, iv (i : Int), Sl.enc q, iv ((q.getD []).length : Nat), Sl.enc p, iv ((p.getD []).length : Nat), bv false, .top, .top, .top, .top, .top, .top, .top, .top, .top, .top, .top, .top, .top, .top, .top]) (bv true, []) (bv false, [])
    (by
      intro pre x y S h1 h2 h3
      have h4 : (p.getD [])[pre.length] = y := by simpa [h3] using h2
      rw [loopP.eq_1]
      simp [e_lb0_laws_eqStringS, T.len, T.idx, T.load, U.idx, U.load, S.idx, S.lt, S.elt, h1, h3, h4, cut, S.wr]
      cases decide (x = y) <;> simp [restr, e_lk0r_laws_eqStringS])
    (by
      rw [loopP.eq_1]
      simp [e_lb0_laws_eqStringS, T.len, restr, e_lk0x0_laws_eqStringS])
  simpa using L
theorem ok_laws_eqStringS : PureOK Try.prog n_laws_eqStringS (G2 (fun q _ : Sl ByteArray => fit q) fun q p => bv (decide (q.getD [] = p.getD []))) :=
  pureG2 E0 mixed hb_laws_eqStringS fun q p hq => by
  have T := lookT q (w := 1) rfl
  have U := lookT p (w := 1) rfl
  by_cases hl : (q.getD []).length = (p.getD []).length
  · have L := fun env => lp_laws_eqStringS env q p hq hl
    simp [e_laws_eqStringS, T.len, U.len, hl] at L ⊢
    simp [L]
  · have h2 : ¬ q.getD [] = p.getD [] := fun e => hl (by rw [e])
    have h3 : ¬ ((q.getD []).length : Int) = (p.getD []).length := by omega
    simp [e_laws_eqStringS, T.len, U.len, h3, h2]

theorem lp_slices_IndexFunc_string_string (env : Nat → Contract) (g : Nat) (p : ByteArray → Bool) (he : env g = .pure (G1 (fun a : ByteArray => fit a) fun a => bv (p a))) (q : Sl ByteArray) (hq : fit q = true) : obind (loopP hm0_slices_IndexFunc_string_string xm0_slices_IndexFunc_string_string (lb0_slices_IndexFunc_string_string env) [Sl.enc q, .fn g [], und, und, .top, .top, Sl.enc q, iv ((q.getD []).length : Nat), iv 0, .top, .top, .top, .top, .top, .top, .top, .top, .top, .top] []) (fun r => lk0_slices_IndexFunc_string_string env r.1 r.2.1 r.2.2) = some (iv (findI p (q.getD []) 0), []) := by
  have T := lookT q (w := 1) rfl
  exact loop_over (q.getD []) (fit_max hq) (hmk := hm0_slices_IndexFunc_string_string) (xm := xm0_slices_IndexFunc_string_string) (body := lb0_slices_IndexFunc_string_string env) (K := fun r => lk0_slices_IndexFunc_string_string env r.1 r.2.1 r.2.2) (σ := Nat) (fun i _ => [Sl.enc q, .fn g [], und, und, .top, .top, Sl.enc q, iv ((q.getD []).length : Nat), iv (i : Int), .top, .top, .top, .top, .top, .top, .top, .top, .top, .top]) (fun _ => [])
    (fun i suf => i + suf.length = (q.getD []).length) (fun i suf => some (iv (findI p suf i), []))
    (fun pre x suf i hl hi S => by
      have hp : pre.length = i := by
        have := congrArg List.length hl
        simp at this hi
        omega
      subst hp
      have hfx : fit x = true := fit_mem hq (by rw [hl]; simp)
      cases hx : p x
      · right
        refine ⟨pre.length + 1, by simpa [Nat.add_assoc, Nat.add_comm 1] using hi, ?_, by simp [findI, hx]⟩
        rw [loopP.eq_1]
        simp [e_lb0_slices_IndexFunc_string_string, T.len, T.idx, T.load, S.idx, S.lt, S.elt, cut, S.wr, he, hfx, hx, restr]
      · left
        rw [loopP.eq_1]
        simp [e_lb0_slices_IndexFunc_string_string, T.len, T.idx, T.load, S.idx, S.lt, S.elt, cut, S.wr, he, hfx, hx, restr, e_lk0r_slices_IndexFunc_string_string, findI])
    (fun i hi => by
      have hp : i = (q.getD []).length := by simpa using hi
      subst hp
      rw [loopP.eq_1]
      simp [e_lb0_slices_IndexFunc_string_string, T.len, restr, e_lk0x0_slices_IndexFunc_string_string, findI]) 0 (by simp)
theorem ok_slices_IndexFunc_string_string {g : Nat} {p : ByteArray → Bool} (hg : PureOK Try.prog g (G1 (fun a : ByteArray => fit a) fun a => bv (p a))) : PureOK Try.prog n_slices_IndexFunc_string_string (G2 (fun (q : Sl ByteArray) (_ : Clo0 g) => fit q) fun q _ => iv (findI p (q.getD []) 0)) :=
  pureG2 (E1 hg) mixed hb_slices_IndexFunc_string_string fun q _ hq => by
  have T := lookT q (w := 1) rfl
  have L := fun env he => lp_slices_IndexFunc_string_string env g p he q hq
  simp [e_slices_IndexFunc_string_string, T.len, L, envL]

theorem ok_slices_ContainsFunc_string_string {g : Nat} {p : ByteArray → Bool} (hg : PureOK Try.prog g (G1 (fun a : ByteArray => fit a) fun a => bv (p a))) : PureOK Try.prog n_slices_ContainsFunc_string_string (G2 (fun (q : Sl ByteArray) (_ : Clo0 g) => fit q) fun q _ => bv ((q.getD []).any p)) :=
  pureG2 (E1 (ok_slices_IndexFunc_string_string hg)) mixed hb_slices_ContainsFunc_string_string fun q _ hq => by
  simp [e_slices_ContainsFunc_string_string, envL, hq, findI_any]

theorem ok_impl_WordsCost_1 : PureOK Try.prog n_impl_WordsCost_1 (G1 (fun a : ByteArray => fit a) fun a => bv (!isWord a)) := pureG1 (E1 ok_impl_IsWord) mixed hb_impl_WordsCost_1 fun a h => by
  simp [e_impl_WordsCost_1, envL, h]

def wsum (m : Model) : ByteArray → Int → List ByteArray → Int
  | _, s, [] => s
  | last, s, w :: r => wsum m w (wr (s + pairCost m last w)) r
def wordsCost (m : Model) (l : List ByteArray) : Int × Int := bif !validModel m then (0, 1) else bif !l.all isWord then (0, 7) else bif decide (8 < l.length) then (0, 2) else (wsum m ⟨#[]⟩ 0 l, 0)

theorem lp_impl_wordsCost (env : Nat → Contract) (he : env n_impl_pairCost = .pure (G3 (fun (m : Model) (_ _ : ByteArray) => fit m && srtB (m.bigrams.getD [])) fun m f s => iv (pairCost m f s))) {y0 y1 y3 y4 y7 y23 : AV} (m : Model) (q : Sl ByteArray) (hmf : fit m = true) (hs : srtB (m.bigrams.getD []) = true) (hq : fit q = true) (s : Int × ByteArray) :
    (obind (loopP hm0_impl_wordsCost xm0_impl_wordsCost (lb0_impl_wordsCost env) [y0, y1, .ptr 0 1 0 0, y3, y4, iv s.1, sv s.2, y7, .top, Sl.enc q, iv ((q.getD []).length : Nat), iv 0, .top, .top, .top, .top, .top, .top, .top, .top, .top, .top, .top, y23] [⟨2, [[iv m.default, Sl.enc m.bigrams]]⟩]) fun r => lk0_impl_wordsCost env r.1 r.2.1 r.2.2) = some (iv (wsum m s.2 s.1 (q.getD [])), [⟨2, [[iv m.default, Sl.enc m.bigrams]]⟩]) := by
  have T := lookT q (w := 1) rfl
  have ld : ∀ g n j, aLoad g n (.ptr 0 1 0 j) [⟨2, [[iv m.default, Sl.enc m.bigrams]]⟩] = cut g n ([iv m.default, Sl.enc m.bigrams].drop j) := fun g n j => load_head g n j 2 _ []
  exact loop_over (q.getD []) (fit_max hq) (hmk := hm0_impl_wordsCost) (xm := xm0_impl_wordsCost) (body := lb0_impl_wordsCost env) (K := fun r => lk0_impl_wordsCost env r.1 r.2.1 r.2.2) (σ := Int × ByteArray) (fun s (i : Nat) => [y0, y1, .ptr 0 1 0 0, y3, y4, iv s.1, sv s.2, y7, .top, Sl.enc q, iv ((q.getD []).length : Nat), iv (i : Nat), .top, .top, .top, .top, .top, .top, .top, .top, .top, .top, .top, y23]) (fun _ => [⟨2, [[iv m.default, Sl.enc m.bigrams]]⟩])
    (fun _ _ => True) (fun s suf => some (iv (wsum m s.2 s.1 suf), [⟨2, [[iv m.default, Sl.enc m.bigrams]]⟩]))
    (fun pre x suf s hl hi S => by
      right
      refine ⟨(wr (s.1 + pairCost m s.2 x), x), trivial, ?_, rfl⟩
      rw [loopP.eq_1]
      simp [e_lb0_impl_wordsCost, T.len, T.idx, T.load, S.idx, S.lt, S.elt, cut, ld, S.wr, he, hmf, hs, restr])
    (fun s hi => by
      rw [loopP.eq_1]
      simp [e_lb0_impl_wordsCost, T.len, restr, e_lk0x0_impl_wordsCost, wsum]) s trivial
theorem ok_impl_wordsCost : PureOK Try.prog n_impl_wordsCost (G2 (fun (m : Model) (q : Sl ByteArray) => fit m && (srtB (m.bigrams.getD []) && fit q)) fun m q => iv (wsum m ⟨#[]⟩ 0 (q.getD []))) :=
  pureG2 (E1 ok_impl_pairCost) mixed hb_impl_wordsCost fun m q h => by
  simp at h
  have T := lookT q (w := 1) rfl
  have L := fun env he {y0 y1 y3 y4 y7 y23} => @lp_impl_wordsCost env he y0 y1 y3 y4 y7 y23 m q h.1 h.2.1 h.2.2 (0, ⟨#[]⟩)
  simp [e_impl_wordsCost, aBox, T.len, envL] at L ⊢
  simp [L]

theorem lp_spec_l18Words (env : Nat → Contract) (he : env n_spec_l18Pair = .pure (G3 (fun (m : Ref Model) (_ _ : ByteArray) => fit m.val) fun m f s => iv (pairCost m.val f s))) {y2 y3 y4 y27 : AV} (m : Model) (q : Sl ByteArray) (hmf : fit m = true) (hq : fit q = true) (s : Int × ByteArray) :
    (obind (loopP hm0_spec_l18Words xm0_spec_l18Words (lb0_spec_l18Words env) [.fptr 2 [[iv m.default, Sl.enc m.bigrams]] 0 0, Sl.enc q, y2, y3, y4, iv s.1, sv s.2, iv 0, .top, .top, .top, .top, .top, .top, .top, .top, .top, .top, .top, .top, .top, .top, .top, .top, .top, .top, .top, y27] []) fun r => lk0_spec_l18Words env r.1 r.2.1 r.2.2) = some (iv (wsum m s.2 s.1 (q.getD [])), []) := by
  have T := lookT q (w := 1) rfl
  have sn : ∀ h, snapD h (.fptr 2 [[iv m.default, Sl.enc m.bigrams]] 0 0) = some (⟨m⟩ : Ref Model) := fun h => snapD_refE h m
  exact loop_over (q.getD []) (fit_max hq) (hmk := hm0_spec_l18Words) (xm := xm0_spec_l18Words) (body := lb0_spec_l18Words env) (K := fun r => lk0_spec_l18Words env r.1 r.2.1 r.2.2) (σ := Int × ByteArray) (fun s (i : Nat) => [.fptr 2 [[iv m.default, Sl.enc m.bigrams]] 0 0, Sl.enc q, y2, y3, y4, iv s.1, sv s.2, iv (i : Nat), .top, .top, .top, .top, .top, .top, .top, .top, .top, .top, .top, .top, .top, .top, .top, .top, .top, .top, .top, y27]) (fun _ => [])
    (fun _ _ => True) (fun s suf => some (iv (wsum m s.2 s.1 suf), []))
    (fun pre x suf s hl hi S => by
      right
      refine ⟨(wr (s.1 + pairCost m s.2 x), x), trivial, ?_, rfl⟩
      rw [loopP.eq_1]
      simp [e_lb0_spec_l18Words, T.len, T.idx, T.load, S.idx, S.lt, S.elt, cut, sn, S.wr, he, hmf, restr])
    (fun s hi => by
      rw [loopP.eq_1]
      simp [e_lb0_spec_l18Words, T.len, restr, e_lk0x0_spec_l18Words, wsum]) s trivial
theorem ok_spec_l18Words : PureOK Try.prog n_spec_l18Words (G2 (fun (m : Ref Model) (q : Sl ByteArray) => fit m.val && fit q) fun m q => iv (wsum m.val ⟨#[]⟩ 0 (q.getD []))) :=
  pureG2 (E1 ok_spec_l18Pair) mixed hb_spec_l18Words fun m q h => by
  obtain ⟨m⟩ := m
  simp at h
  have L := fun env he {y2 y3 y4 y27} => @lp_spec_l18Words env he y2 y3 y4 y27 m q h.1 h.2 (0, ⟨#[]⟩)
  simp [e_spec_l18Words, envL] at L ⊢
  simp [L]

theorem lp_spec_l18Plain (env : Nat → Contract) (he : env n_spec_IsWord = .pure (G1 (fun s : ByteArray => fit s) fun s => bv (isWord s))) {y1 : AV} (q : Sl ByteArray) (hq : fit q = true) :
    (obind (loopP hm0_spec_l18Plain xm0_spec_l18Plain (lb0_spec_l18Plain env) [Sl.enc q, y1, .top, iv 0, .top, .top, .top, .top, .top, .top, .top, .top, .top, .top, .top, .top] []) fun r => lk0_spec_l18Plain env r.1 r.2.1 r.2.2) = some (bv ((q.getD []).all isWord), []) := by
  have T := lookT q (w := 1) rfl
  have L := loop_over (q.getD []) (fit_max hq) (hmk := hm0_spec_l18Plain) (xm := xm0_spec_l18Plain) (body := lb0_spec_l18Plain env) (K := fun r => lk0_spec_l18Plain env r.1 r.2.1 r.2.2) (σ := Unit) (fun _ (i : Nat) => [Sl.enc q, y1, .top, iv (i : Nat), .top, .top, .top, .top, .top, .top, .top, .top, .top, .top, .top, .top]) (fun s => [])
    (fun _ _ => True) (fun _ suf => some (bv (suf.all isWord), []))
    (fun pre k suf s hl hi S => by
      have hfx : fit k = true := fit_mem hq (by rw [hl]; simp)
      cases hk : isWord k
      · left
        rw [loopP.eq_1]
        simp [e_lb0_spec_l18Plain, T.len, T.idx, T.load, S.idx, S.lt, S.elt, cut, S.wr, he, hfx, hk, restr, e_lk0r_spec_l18Plain]
      · right
        refine ⟨(), trivial, ?_, by simp [hk]⟩
        rw [loopP.eq_1]
        simp [e_lb0_spec_l18Plain, T.len, T.idx, T.load, S.idx, S.lt, S.elt, cut, S.wr, he, hfx, hk, restr])
    (fun s hi => by
      rw [loopP.eq_1]
      simp [e_lb0_spec_l18Plain, T.len, restr, e_lk0x0_spec_l18Plain]) () trivial
  simpa using L
theorem ok_spec_l18Plain : PureOK Try.prog n_spec_l18Plain (G1 (fun q : Sl ByteArray => fit q) fun q => bv ((q.getD []).all isWord)) :=
  pureG1 (E1 ok_spec_IsWord) mixed hb_spec_l18Plain fun q hq => by
  have L := fun env he {y1} => @lp_spec_l18Plain env he y1 q hq
  simp [-List.all_eq_true, e_spec_l18Plain, envL, L]

theorem ok_impl_WordsCost : PureOK Try.prog n_impl_WordsCost (G2 (fun (m : Model) (q : Sl ByteArray) => fit m && fit q) fun m q => enc (wordsCost m (q.getD []))) :=
  pureG2 (E3 ok_impl_ValidModel (ok_slices_ContainsFunc_string_string ok_impl_WordsCost_1) ok_impl_wordsCost) mixed hb_impl_WordsCost fun m q h => by
  simp at h
  have T := lookT q (w := 1) rfl
  cases v : validModel m
  · simp [e_impl_WordsCost, envL, aBox, aLoad, cut, h, v, wordsCost]
  · have hs := srt_valid v
    have hn := not_any_not isWord (q.getD [])
    cases w : (q.getD []).all isWord
    · have hn2 : ((q.getD []).any fun a => !isWord a) = true := by rw [w] at hn; simpa using hn
      simp [-List.any_eq_true, -List.all_eq_true, -List.all_eq_false, -List.any_eq_false, e_impl_WordsCost, envL, aBox, aLoad, cut, h, v, w, hn2, wordsCost]
    · have hn2 : ((q.getD []).any fun a => !isWord a) = false := by rw [w] at hn; simpa using hn
      have c8 : ((8 : Int) < (((q.getD []).length : Nat) : Int)) = (8 < (q.getD []).length) := propext ⟨by omega, by omega⟩
      by_cases z : 8 < (q.getD []).length <;>
        simp [-List.any_eq_true, -List.all_eq_true, -List.all_eq_false, -List.any_eq_false, e_impl_WordsCost, envL, aBox, aLoad, cut, h, v, hs, w, hn2, T.len, c8, z, wordsCost]

theorem ok_spec_WordsCost : PureOK Try.prog n_spec_WordsCost (G2 (fun (m : Model) (q : Sl ByteArray) => fit m && fit q) fun m q => enc (wordsCost m (q.getD []))) :=
  pureG2 (E3 ok_spec_l18Ok ok_spec_l18Plain ok_spec_l18Words) mixed hb_spec_WordsCost fun m q h => by
  simp at h
  have T := lookT q (w := 1) rfl
  have r0 : snapD [⟨2, [[iv m.default, Sl.enc m.bigrams]]⟩] (.ptr 0 1 0 0) = some (⟨m⟩ : Ref Model) := snapD_ref m rfl (by simp [omap])
  have c8 : ((8 : Int) < (((q.getD []).length : Nat) : Int)) = (8 < (q.getD []).length) := propext ⟨by omega, by omega⟩
  cases v : validModel m
  · simp [e_spec_WordsCost, envL, aBox, r0, h, v, wordsCost]
  · cases w : (q.getD []).all isWord
    · simp [-List.all_eq_true, -List.all_eq_false, e_spec_WordsCost, envL, aBox, r0, h, v, w, wordsCost]
    · by_cases z : 8 < (q.getD []).length <;>
        simp [-List.all_eq_true, -List.all_eq_false, e_spec_WordsCost, envL, aBox, r0, h, v, w, T.len, c8, z, wordsCost]

theorem ok_laws_FnExactWordsCost : PureOK Try.prog n_laws_FnExactWordsCost (G2 (fun (a : Model) (b : Sl ByteArray) => Wt.big a && Wt.big b) fun _ _ => bv true) :=
  pureG2 (Econs ok_laws_szModel (Econs ok_laws_szStringS (Econs ok_laws_toModel (Econs ok_laws_toStringS (E4 ok_spec_WordsCost ok_impl_WordsCost ok_laws_eqModel ok_laws_eqStringS))))) mixed hb_laws_FnExactWordsCost fun a b h => by
  simp at h
  have s1 : szOK a 1048576 = true := by simp [szOK, h]
  by_cases h1 : (1048576 : Int) < (Wt.wt a : Nat)
  · simp [e_laws_FnExactWordsCost, envL, aBox, aLoad, cut, s1, szR_lt h1]
  · have r1 : ¬ (1048576 : Int) - (Wt.wt a : Nat) < 0 := by omega
    have s2 : szOK b (1048576 - (Wt.wt a : Nat)) = true := by simp [szOK, h]; omega
    have f1 : fit a = true := fit_wt h1 (by decide)
    by_cases h2 : (1048576 - (Wt.wt a : Nat) : Int) < (Wt.wt b : Nat)
    · simp [e_laws_FnExactWordsCost, envL, aBox, aLoad, cut, s1, szR_ge h1, r1, s2, szR_lt h2]
    · have r2 : ¬ (1048576 : Int) - (Wt.wt a : Nat) - (Wt.wt b : Nat) < 0 := by omega
      have f2 : fit b = true := fit_wt h2 (by omega)
      simp [e_laws_FnExactWordsCost, envL, aBox, aLoad, cut, s1, szR_ge h1, r1, s2, szR_ge h2, r2, f1, f2, aStore, splice, hand_nag, hand_nws, snapD_nag, snapD_nws, fit_norm f1, fit_norm f2, sameModel_self]
theorem law_FnExactWordsCost (a : Model) (b : Sl ByteArray) (ha : Row.fine a) (hb : Row.fine b) : G2 (fun (a : Model) (b : Sl ByteArray) => Wt.big a && Wt.big b) (fun _ _ => bv true) [enc a, enc b] = some (bv true) := G2_enc _ _ a b (by simp [Wt.fb a ha, Wt.fb b hb])

theorem isC_2 {cs : List AV} (h : IsC Try.prog 2 cs) : ∃ x : Int, cs = Row.cells x ∧ Row.fine x := by
  obtain ⟨n, rfl, hn⟩ := IsC.intE Try.underlying2 h
  exact ⟨n, rfl, fine_int hn⟩
theorem isC_9 {cs : List AV} (h : IsC Try.prog 9 cs) : ∃ x : ByteArray, cs = Row.cells x ∧ Row.fine x := by
  obtain ⟨n, rfl, hn⟩ := IsC.strE Try.underlying9 h
  exact ⟨n, rfl, hn⟩
theorem isC_98 {cs : List AV} (h : IsC Try.prog 98 cs) : ∃ x : Bigram, cs = Row.cells x ∧ Row.fine x := by
  replace h := IsC.structE Try.underlying98 h
  obtain ⟨c0, r0, rfl, q0, k0⟩ := IsFs.consE h
  obtain ⟨c1, r1, rfl, q1, k1⟩ := IsFs.consE k0
  obtain ⟨c2, r2, rfl, q2, k2⟩ := IsFs.consE k1
  cases IsFs.nilE k2
  obtain ⟨v0, rfl, w0⟩ := isC_9 q0
  obtain ⟨v1, rfl, w1⟩ := isC_9 q1
  obtain ⟨v2, rfl, w2⟩ := isC_2 q2
  exact ⟨⟨v0, v1, v2⟩, rfl, w0, w1, w2⟩
theorem isC_22 {cs : List AV} (h : IsC Try.prog 22 cs) : ∃ x : (Sl Bigram), cs = Row.cells x ∧ Row.fine x := by
  rcases IsC.sliceE Try.underlying22 h with rfl | ⟨rows, rfl, h1, h2⟩
  · exact ⟨none, rfl, Sl.fineNil⟩
  · exact Sl.isC (by kernel_rfl) h1 fun row hr => isC_98 (h2 row hr)
theorem isC_24 {cs : List AV} (h : IsC Try.prog 24 cs) : ∃ x : Model, cs = Row.cells x ∧ Row.fine x := by
  replace h := IsC.structE Try.underlying24 h
  obtain ⟨c0, r0, rfl, q0, k0⟩ := IsFs.consE h
  obtain ⟨c1, r1, rfl, q1, k1⟩ := IsFs.consE k0
  cases IsFs.nilE k1
  obtain ⟨v0, rfl, w0⟩ := isC_2 q0
  obtain ⟨v1, rfl, w1⟩ := isC_22 q1
  exact ⟨⟨v0, v1⟩, rfl, w0, w1⟩
theorem isC_56 {cs : List AV} (h : IsC Try.prog 56 cs) : ∃ x : (Sl ByteArray), cs = Row.cells x ∧ Row.fine x := by
  rcases IsC.sliceE Try.underlying56 h with rfl | ⟨rows, rfl, h1, h2⟩
  · exact ⟨none, rfl, Sl.fineNil⟩
  · exact Sl.isC (by kernel_rfl) h1 fun row hr => isC_9 (h2 row hr)
theorem own : ownKnob Try.prog.godebug = none := by kernel_rfl
theorem laidOut : laidOutB Try.prog = true := by kernel_rfl

set_option maxRecDepth 100000 in
theorem holds : Rows.FnExactWordsCostSaid :=
  OpenClaim.holds_of_wide 7 Try.f7 rfl rfl rfl rfl rfl rfl rfl ⟨rfl, rfl, rfl, rfl, rfl⟩ rfl rfl rfl rfl rfl (by kernel_rfl) Try.func7 (by kernel_rfl)
    (of_decide_eq_true (by kernel_rfl)) (by unfold Func.isWrapper; rw [if_neg (by decide +kernel)]; exact ⟨rfl, rfl⟩)
    (fun os started H enc _ => law_lifted (C := Try.checked) (s := Rows.fnExactWordsCostSpec) own started (by kernel_rfl) Try.func7
      (ChangeSpec.witness6 (enc := enc) (C := Try.checked) false ⟨#[], #[.agg #[.int .i64 0, .slice none 0 0], .slice none 0 0], []⟩ 8 (by kernel_rfl) (by kernel_rfl) (by kernel_rfl) (by kernel_rfl))
      laidOut rfl (tb := 4) rfl Try.underlying4 (ts := [24, 2, 22, 98, 9, 56]) (by kernel_rfl)
      (fun ds h => by match ds, h with | [d0, d1], _ => rfl)
      hb_laws_FnExactWordsCost ok_laws_FnExactWordsCost (by
    intro l h
    obtain ⟨a0, l0, rfl, g0, k0⟩ := h
    obtain ⟨a1, l1, rfl, g1, k1⟩ := k0
    cases k1
    obtain ⟨c0, rfl, m0⟩ := IsV.structE Try.underlying24 g0
    obtain ⟨b0, rfl, w0⟩ := isC_24 m0
    obtain ⟨b1, e1, w1⟩ := isC_56 (isV_one (by kernel_rfl) g1)
    obtain rfl := one_enc e1
    exact law_FnExactWordsCost b0 b1 w0 w1))
#print axioms holds
end Go.Proofs.Ytfladjnggkeiaab
