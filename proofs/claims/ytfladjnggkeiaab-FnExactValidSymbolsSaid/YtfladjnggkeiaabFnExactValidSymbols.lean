/-
  The law FnExactValidSymbols holds, for all arguments: it returns true, and its arguments read behind the call as before. No condition.
-/
import Derived.Test.YtfladjnggkeiaabFnExactValidSymbolsGen
import Derived.Test.YtfladjnggkeiaabRows
namespace Go.Proofs.Ytfladjnggkeiaab
open Go Go.Eng Go.Eng.Cod
set_option maxRecDepth 100000

theorem nil_ok : EnvOK Try.prog (envL []) := E0

def within (a b c : Int) : Bool := decide (b ≤ a) && decide (a ≤ c)

theorem ok_impl_within : PureOK Try.prog n_impl_within (T3 within) := pureT3 nil_ok mixed hb_impl_within fun a b c => by
  simp [e_impl_within, within]

theorem ok_spec_l00In : PureOK Try.prog n_spec_l00In (T3 within) := pureT3 nil_ok mixed hb_spec_l00In fun a b c => by
  simp [e_spec_l00In, within]

def validBox (b : Box) : Bool := within b.x1 0 b.x2 && within b.y1 0 b.y2 && decide (b.x2 ≤ 4095) && decide (b.y2 ≤ 4095)

theorem ok_impl_ValidBox : PureOK Try.prog n_impl_ValidBox (T1 validBox) :=
  pureT1 (E1 ok_impl_within) mixed hb_impl_ValidBox fun b => by
  simp [e_impl_ValidBox, envL, aBox, aLoad, cut, validBox]

theorem ok_spec_l02Box : PureOK Try.prog n_spec_l02Box (T1 validBox) :=
  pureT1 (E1 ok_spec_l00In) mixed hb_spec_l02Box fun b => by
  simp [e_spec_l02Box, envL, aBox, aLoad, cut, validBox]

theorem ok_laws_toBox : PureOK Try.prog n_laws_toBox (T1 fun b : Box => b) := pureT1 nil_ok mixed hb_laws_toBox fun b => by
  simp [e_laws_toBox, aBox, aLoad, cut, aStore, splice, retL, resL, pack]

theorem ok_laws_eqBox : PureOK Try.prog n_laws_eqBox (T2 fun a b : Box => decide (a = b)) := pureT2 nil_ok mixed hb_laws_eqBox fun a b => by
  simp [e_laws_eqBox, aBox, aLoad, cut]
  obtain ⟨a1, a2, a3, a4⟩ := a
  obtain ⟨b1, b2, b3, b4⟩ := b
  simp

theorem ok_laws_szSymbol : PureOK Try.prog n_laws_szSymbol (G2 (fun (q : Symbol) left => szOK q left) fun q left => iv (szR left (Wt.wt q))) :=
  pureG2 E0 mixed hb_laws_szSymbol fun q left h => by
  obtain ⟨h1, h2, h3⟩ := (szOK_iff q left).1 h
  have h0 : q.label.size ≤ maxLen := of_decide_eq_true h1
  have h4 := sz_len h2 h3 h0
  have h5 : Wt.wt q = q.label.size := rfl
  rw [h5]
  by_cases hl : left < (q.label.size : Nat)
  · have : left - (q.label.size : Nat) < 0 := by omega
    simp [e_laws_szSymbol, aBox, aLoad, cut, h4, this, szR_lt hl]
  · have : ¬ left - (q.label.size : Nat) < 0 := by omega
    simp [e_laws_szSymbol, aBox, aLoad, cut, h4, this, szR_ge hl]

theorem ok_laws_toSymbol : PureOK Try.prog n_laws_toSymbol (T1 fun b : Symbol => b) := pureT1 (E1 ok_laws_toBox) mixed hb_laws_toSymbol fun b => by
  simp [e_laws_toSymbol, envL, aBox, aLoad, cut, aStore, splice, retL, resL, pack]

theorem ok_laws_eqSymbol : PureOK Try.prog n_laws_eqSymbol (T2 fun a b : Symbol => decide (a = b)) := pureT2 (E1 ok_laws_eqBox) mixed hb_laws_eqSymbol fun a b => by
  simp [e_laws_eqSymbol, envL, aBox, aLoad, cut]
  obtain ⟨a0, a1⟩ := a
  obtain ⟨b0, b1⟩ := b
  simp

theorem lp_laws_szSymbolS (env : Nat → Contract) (he : env n_laws_szSymbol = .pure (G2 (fun (q : Symbol) left => szOK q left) fun q left => iv (szR left (Wt.wt q)))) (q : Sl Symbol) (hq : Wt.big q = true) (left s : Int) (hs : 0 ≤ s ∧ s ≤ 1048576) :
    obind (loopP hm0_laws_szSymbolS xm0_laws_szSymbolS (lb0_laws_szSymbolS env) [Sl.enc q, iv s, und, und, .top, iv 0, iv left, Sl.enc q, iv ((q.getD []).length : Nat), iv (left - ((q.getD []).length : Nat)), iv (left - ((q.getD []).length : Nat)), bv false, .top, .top, .top, .top, .top, .top, .top, .top, .top, .top, .top, .top, .top, .top, und] []) (fun r => lk0_laws_szSymbolS env r.1 r.2.1 r.2.2) = some (iv (szR s ((q.getD []).map Wt.wt).sum), []) := by
  have T := lookT q (w := 5) rfl
  exact loop_over (q.getD []) (big_len hq) (hmk := hm0_laws_szSymbolS) (xm := xm0_laws_szSymbolS) (body := lb0_laws_szSymbolS env) (K := fun r => lk0_laws_szSymbolS env r.1 r.2.1 r.2.2) (σ := Int) (fun s i => [Sl.enc q, iv s, und, und, .top, iv (i : Int), iv left, Sl.enc q, iv ((q.getD []).length : Nat), iv (left - ((q.getD []).length : Nat)), iv (left - ((q.getD []).length : Nat)), bv false, .top, .top, .top, .top, .top, .top, .top, .top, .top, .top, .top, .top, .top, .top, und]) (fun _ => [])
    (fun s _ => 0 ≤ s ∧ s ≤ 1048576) (fun s suf => some (iv (szR s (suf.map Wt.wt).sum), []))
    (fun pre x suf s hl hi S => by
      have hb : Wt.big x = true := big_mem hq (by rw [hl]; simp)
      have ho : szOK x s = true := (szOK_iff x s).2 ⟨hb, hi.1, hi.2⟩
      by_cases h : s < (Wt.wt x : Nat)
      · left
        rw [loopP.eq_1]
        have h2 := szR_lt' (v := (suf.map Wt.wt).sum) h
        simp only [List.map_cons, List.sum_cons, h2]
        simp [e_lb0_laws_szSymbolS, T.len, T.idx, T.load, S.idx, S.lt, S.elt, cut, S.wr, he, ho, szR_lt h, restr, e_lk0r_laws_szSymbolS]
      · right
        refine ⟨s - (Wt.wt x : Nat), ⟨by omega, by omega⟩, ?_, ?_⟩
        · rw [loopP.eq_1]
          have h3 : ¬ s - (Wt.wt x : Nat) < 0 := by omega
          simp [e_lb0_laws_szSymbolS, T.len, T.idx, T.load, S.idx, S.lt, S.elt, cut, S.wr, he, ho, szR_ge h, h3, restr]
        · simp only [List.map_cons, List.sum_cons, szR_add h])
    (fun s hi => by
      rw [loopP.eq_1]
      have h3 : ¬ s < 0 := by omega
      simp [e_lb0_laws_szSymbolS, T.len, restr, e_lk0x0_laws_szSymbolS, szR, h3]) s hs
theorem ok_laws_szSymbolS : PureOK Try.prog n_laws_szSymbolS (G2 (fun (q : Sl Symbol) left => szOK q left) fun q left => iv (szR left (Wt.wt q))) :=
  pureG2 (E1 ok_laws_szSymbol) mixed hb_laws_szSymbolS fun q left h => by
  have T := lookT q (w := 5) rfl
  obtain ⟨h1, h2, h3⟩ := (szOK_iff q left).1 h
  have h4 := sz_len h2 h3 (big_len h1)
  rw [wt_sl]
  by_cases hl : left < ((q.getD []).length : Nat)
  · have h5 : left - ((q.getD []).length : Nat) < 0 := by omega
    simp [e_laws_szSymbolS, T.len, h4, h5, szR_lt' hl]
  · have h5 : ¬ left - ((q.getD []).length : Nat) < 0 := by omega
    have L := fun env he => lp_laws_szSymbolS env he q h1 left (left - ((q.getD []).length : Nat)) ⟨by omega, by omega⟩
    simp [e_laws_szSymbolS, T.len, h4, h5, L, envL, szR_add hl]

theorem lp_laws_toSymbolS (env : Nat → Contract) (q : Sl Symbol) (hq : fit q = true) (he : env n_laws_toSymbol = .pure (T1 fun b : Symbol => b)) : obind (loopP hm0_laws_toSymbolS xm0_laws_toSymbolS (lb0_laws_toSymbolS env) [Sl.enc q, und, nilS, .sl 0 (q.getD []).length 0 (q.getD []).length, iv 0, Sl.enc q, iv ((q.getD []).length : Nat), .sl 0 (q.getD []).length 0 (q.getD []).length, .top, .top, .top, .top, .top, .top, .top, .top, .top, .top, .top, .top, .top, .top, und] [⟨5, List.replicate (q.getD []).length [(sv ⟨#[]⟩), (iv 0), (iv 0), (iv 0), (iv 0)]⟩]) (fun r => lk0_laws_toSymbolS env r.1 r.2.1 r.2.2) = some (.sl 0 (q.getD []).length 0 (q.getD []).length, mt (nws q) 0) := by
  have T := lookT q (w := 5) rfl
  have L := loop_fill (A := Symbol) (by decide) (q.getD []) (hm := hm0_laws_toSymbolS) (xm := xm0_laws_toSymbolS) (body := lb0_laws_toSymbolS env) (K := fun r => lk0_laws_toSymbolS env r.1 r.2.1 r.2.2) [(sv ⟨#[]⟩), (iv 0), (iv 0), (iv 0), (iv 0)] (fun i => [Sl.enc q, und, nilS, .sl 0 (q.getD []).length 0 (q.getD []).length, iv (i : Int), Sl.enc q, iv ((q.getD []).length : Nat), .sl 0 (q.getD []).length 0 (q.getD []).length, .top, .top, .top, .top, .top, .top, .top, .top, .top, .top, .top, .top, .top, .top, und]) (by
    intro pre a suf rows objs hl hr
    have S := Stp.mk' hl (fit_max hq)
    have hn : pre.length + 1 + suf.length = (q.getD []).length := by rw [hl]; simp; omega
    have hfit : fit a = true := fit_mem hq (by rw [hl]; simp)
    have fa := fun objs => fill_addr (w := 5) (rows := rows) (objs := objs) (z := [(sv ⟨#[]⟩), (iv 0), (iv 0), (iv 0), (iv 0)]) hr hn
    have fs := fun objs v => fill_store (w := 5) (rows := rows) (objs := objs) (z := [(sv ⟨#[]⟩), (iv 0), (iv 0), (iv 0), (iv 0)]) (v := v) hr hn rfl
    rw [loopP.eq_1]
    simp [e_lb0_laws_toSymbolS, T.len, T.idx, T.load, S.idx, S.lt, S.elt, cut, S.wr, fa, he]
    rw [fs _ _ rfl (by simp)]
    simp [restr])
  simp at L
  rw [L, loopP.eq_1]
  simp [e_lb0_laws_toSymbolS, T.len, restr, e_lk0x0_laws_toSymbolS]
  rfl
theorem ok_laws_toSymbolS : PureOK Try.prog n_laws_toSymbolS (G1 (fun q : Sl Symbol => fit q) nws) :=
  pureG1 (E1 ok_laws_toSymbol) mixed hb_laws_toSymbolS fun q hq => by
  have T := lookT q (w := 5) rfl
  have M := make_ok (bytes := 48) [(sv ⟨#[]⟩), (iv 0), (iv 0), (iv 0), (iv 0)] [] (fit_len hq) (by decide)
  simp at M
  have L := fun env he => lp_laws_toSymbolS env q hq he
  simp [e_laws_toSymbolS, T.len, M, L, envL]
  exact release_nws (by decide) q

theorem lp_laws_eqSymbolS (env : Nat → Contract) (q p : Sl Symbol) (hq : fit q = true) (hl : (q.getD []).length = (p.getD []).length) (he : env n_laws_eqSymbol = .pure (T2 fun a b : Symbol => decide (a = b))) : obind (loopP hm0_laws_eqSymbolS xm0_laws_eqSymbolS (lb0_laws_eqSymbolS env) [Sl.enc q, Sl.enc p, und, und, .top, iv 0, Sl.enc q, iv ((q.getD []).length : Nat), Sl.enc p, iv ((p.getD []).length : Nat), bv false, .top, .top, .top, .top, .top, .top, .top, .top, .top, .top, .top, .top, .top, .top, .top, .top] []) (fun r => lk0_laws_eqSymbolS env r.1 r.2.1 r.2.2) = some (bif decide (q.getD [] = p.getD []) then (bv true, []) else (bv false, [])) := by
  have T := lookT q (w := 5) rfl
  have U := lookT p (w := 5) rfl
  have L := loop_eq (A := Symbol) hl (fit_max hq) (hmk := hm0_laws_eqSymbolS) (xm := xm0_laws_eqSymbolS) (body := lb0_laws_eqSymbolS env) (K := fun r => lk0_laws_eqSymbolS env r.1 r.2.1 r.2.2) [] (fun i => [Sl.enc q, Sl.enc p, und, und, .top, iv (i : Int), Sl.enc q, iv ((q.getD []).length : Nat), Sl.enc p, iv ((p.getD []).length : Nat), bv false, .top, .top, .top, .top, .top, .top, .top, .top, .top, .top, .top, .top, .top, .top, .top, .top]) (bv true, []) (bv false, [])
    (by
      intro pre x y S h1 h2 h3
      have h4 : (p.getD [])[pre.length] = y := by simpa [h3] using h2
      rw [loopP.eq_1]
      simp [e_lb0_laws_eqSymbolS, T.len, T.idx, T.load, U.idx, U.load, S.idx, S.lt, S.elt, h1, h3, h4, cut, S.wr, he]
      cases decide (x = y) <;> simp [restr, e_lk0r_laws_eqSymbolS])
    (by
      rw [loopP.eq_1]
      simp [e_lb0_laws_eqSymbolS, T.len, restr, e_lk0x0_laws_eqSymbolS])
  simpa using L
theorem ok_laws_eqSymbolS : PureOK Try.prog n_laws_eqSymbolS (G2 (fun q _ : Sl Symbol => fit q) fun q p => bv (decide (q.getD [] = p.getD []))) :=
  pureG2 (E1 ok_laws_eqSymbol) mixed hb_laws_eqSymbolS fun q p hq => by
  have T := lookT q (w := 5) rfl
  have U := lookT p (w := 5) rfl
  by_cases hl : (q.getD []).length = (p.getD []).length
  · have L := fun env he => lp_laws_eqSymbolS env q p hq hl he
    simp [e_laws_eqSymbolS, T.len, U.len, hl, envL] at L ⊢
    simp [L]
  · have h2 : ¬ q.getD [] = p.getD [] := fun e => hl (by rw [e])
    have h3 : ¬ ((q.getD []).length : Int) = (p.getD []).length := by omega
    simp [e_laws_eqSymbolS, T.len, U.len, h3, h2]

def names : List ByteArray := [⟨#[110, 111, 110, 101]⟩, ⟨#[114, 105, 103, 104, 116]⟩, ⟨#[97, 98, 111, 118, 101]⟩, ⟨#[98, 101, 108, 111, 119]⟩, ⟨#[117, 112, 112, 101, 114]⟩, ⟨#[108, 111, 119, 101, 114]⟩, ⟨#[105, 110, 115, 105, 100, 101]⟩]
@[simp] theorem names_len : names.length = 7 := rfl

def find (s : ByteArray) : List ByteArray → Nat → Int
  | [], _ => -1
  | x :: r, i => bif decide (x = s) then (i : Int) else find s r (i + 1)
def relationNamed (s : ByteArray) : Int × Int := bif decide (find s names 0 < 0) then (0, 3) else (find s names 0, 0)
theorem find_pos (s : ByteArray) : ∀ (l : List ByteArray) (i : Nat), find s l i = -1 ∨ 0 ≤ find s l i
  | [], _ => .inl rfl
  | x :: r, i => by
    unfold find
    cases decide (x = s)
    · simpa using find_pos s r (i + 1)
    · right; simp

theorem lp_slices_IndexFunc_impl_Symbol_impl_Symbol (env : Nat → Contract) (g : Nat) (p : Symbol → Bool) (he : env g = .pure (T1 p)) (q : Sl Symbol) (hq : fit q = true) : obind (loopP hm0_slices_IndexFunc_impl_Symbol_impl_Symbol xm0_slices_IndexFunc_impl_Symbol_impl_Symbol (lb0_slices_IndexFunc_impl_Symbol_impl_Symbol env) [Sl.enc q, .fn g [], und, und, .top, .top, Sl.enc q, iv ((q.getD []).length : Nat), iv 0, .top, .top, .top, .top, .top, .top, .top, .top, .top, .top] []) (fun r => lk0_slices_IndexFunc_impl_Symbol_impl_Symbol env r.1 r.2.1 r.2.2) = some (iv (findI p (q.getD []) 0), []) := by
  have T := lookT q (w := 5) rfl
  exact loop_over (q.getD []) (fit_max hq) (hmk := hm0_slices_IndexFunc_impl_Symbol_impl_Symbol) (xm := xm0_slices_IndexFunc_impl_Symbol_impl_Symbol) (body := lb0_slices_IndexFunc_impl_Symbol_impl_Symbol env) (K := fun r => lk0_slices_IndexFunc_impl_Symbol_impl_Symbol env r.1 r.2.1 r.2.2) (σ := Nat) (fun i _ => [Sl.enc q, .fn g [], und, und, .top, .top, Sl.enc q, iv ((q.getD []).length : Nat), iv (i : Int), .top, .top, .top, .top, .top, .top, .top, .top, .top, .top]) (fun _ => [])
    (fun i suf => i + suf.length = (q.getD []).length) (fun i suf => some (iv (findI p suf i), []))
    (fun pre x suf i hl hi S => by
      have hp : pre.length = i := by
        have := congrArg List.length hl
        simp at this hi
        omega
      subst hp
      cases hx : p x
      · right
        refine ⟨pre.length + 1, by simpa [Nat.add_assoc, Nat.add_comm 1] using hi, ?_, by simp [findI, hx]⟩
        rw [loopP.eq_1]
        simp [e_lb0_slices_IndexFunc_impl_Symbol_impl_Symbol, T.len, T.idx, T.load, S.idx, S.lt, S.elt, cut, S.wr, he, hx, restr]
      · left
        rw [loopP.eq_1]
        simp [e_lb0_slices_IndexFunc_impl_Symbol_impl_Symbol, T.len, T.idx, T.load, S.idx, S.lt, S.elt, cut, S.wr, he, hx, restr, e_lk0r_slices_IndexFunc_impl_Symbol_impl_Symbol, findI])
    (fun i hi => by
      have hp : i = (q.getD []).length := by simpa using hi
      subst hp
      rw [loopP.eq_1]
      simp [e_lb0_slices_IndexFunc_impl_Symbol_impl_Symbol, T.len, restr, e_lk0x0_slices_IndexFunc_impl_Symbol_impl_Symbol, findI]) 0 (by simp)
theorem ok_slices_IndexFunc_impl_Symbol_impl_Symbol {g : Nat} {p : Symbol → Bool} (hg : PureOK Try.prog g (T1 p)) : PureOK Try.prog n_slices_IndexFunc_impl_Symbol_impl_Symbol (G2 (fun (q : Sl Symbol) (_ : Clo0 g) => fit q) fun q _ => iv (findI p (q.getD []) 0)) :=
  pureG2 (E1 hg) mixed hb_slices_IndexFunc_impl_Symbol_impl_Symbol fun q _ hq => by
  have T := lookT q (w := 5) rfl
  have L := fun env he => lp_slices_IndexFunc_impl_Symbol_impl_Symbol env g p he q hq
  simp [e_slices_IndexFunc_impl_Symbol_impl_Symbol, T.len, L, envL]

def isPage (l : List Box) : Bool := decide (l.length ≤ 60) && l.all validBox
theorem not_any_not {A : Type} (p : A → Bool) (l : List A) : (!l.any fun a => !p a) = l.all p := by
  induction l with
  | nil => rfl
  | cons a l ih => simp [← ih]

def isLow (b : UInt8) : Bool := decide ((97 : Int) ≤ (b.toNat : Int)) && decide ((b.toNat : Int) ≤ 122)

theorem ok_impl_isLetter : PureOK Try.prog n_impl_isLetter (T1 isLow) := pureT1 E0 mixed hb_impl_isLetter fun b => by
  simp [e_impl_isLetter, isLow]

theorem ok_spec_l01Small : PureOK Try.prog n_spec_l01Small (T1 isLow) := pureT1 E0 mixed hb_spec_l01Small fun b => by
  simp [e_spec_l01Small, isLow]

theorem ok_internal_bytealg_IndexByteString : PureOK Try.prog n_internal_bytealg_IndexByteString (T2 indexB) :=
  pure_indexByte (fn := Try.f106) Try.func106 (by kernel_rfl) (by kernel_rfl) (by kernel_rfl) (by kernel_rfl)

theorem ok_internal_stringslite_IndexByte : PureOK Try.prog n_internal_stringslite_IndexByte (T2 indexB) := pureT2 (E1 ok_internal_bytealg_IndexByteString) mixed hb_internal_stringslite_IndexByte fun s b => by
  simp [e_internal_stringslite_IndexByte, envL]

def byte0 (t : ByteArray) : UInt8 := (bl t).headD 0
theorem one_byte {t : ByteArray} (h : t.size = 1) : bl t = [byte0 t] := by
  have : (bl t).length = 1 := by rw [bl_len, h]
  match hb : bl t, this with
  | [b], _ => simp [byte0, hb]
theorem ok_internal_stringslite_Index : PureOK Try.prog n_internal_stringslite_Index (G2 (fun _ t : ByteArray => decide (t.size = 1)) fun s t => iv (indexB s (byte0 t))) :=
  pureG2 (E1 ok_internal_stringslite_IndexByte) mixed hb_internal_stringslite_Index fun s t h => by
  have h1 : t.size = 1 := of_decide_eq_true h
  have h2 : aLenK .str (sv t) = some (iv 1) := by rw [aLenK_str, h1]; rfl
  have h3 : aCmp .eql .plain (iv 1) (iv 0) = some (bv false) := rfl
  have h4 : aCmp .eql .plain (iv 1) (iv 1) = some (bv true) := rfl
  have h5 : aIndexStr (sv t) (iv 0) = some (bt (byte0 t)) := by
    rw [idx_str, h1, one_byte h1]
    rfl
  rw [e_internal_stringslite_Index]
  simp only [enc_str, h2, obind_sm, h3, guardB_false, cond_false, aCmp_eqS, obind2_sm, aPick_bv, condB_bv]
  by_cases e : t = s
  · subst e
    have e0 : indexB t (byte0 t) = 0 := by
      obtain ⟨⟨l⟩⟩ := t
      match l, h1 with
      | [b], _ => 
        show (match (List.range 1).find? (fun i => (⟨#[b]⟩ : ByteArray)[i]! == b) with | some i => (i : Int) | none => -1) = 0
        have : ((⟨#[b]⟩ : ByteArray)[0]! == b) = true := by
          have : (⟨#[b]⟩ : ByteArray)[0]! = b := rfl
          rw [this]
          simp
        simp [List.range_succ, this]
    simp only [decide_true, cond_true, obind_sm, release_iv, e0]
  · simp only [e, decide_false, cond_false, h4, obind_sm, cond_true, h5]
    simp [envL]

theorem ok_strings_Index : PureOK Try.prog n_strings_Index (G2 (fun _ t : ByteArray => decide (t.size = 1)) fun s t => iv (indexB s (byte0 t))) :=
  pureG2 (E1 ok_internal_stringslite_Index) mixed hb_strings_Index fun s t h => by
  simp [e_strings_Index, envL, of_decide_eq_true h]

theorem ok_strings_Contains : PureOK Try.prog n_strings_Contains (G2 (fun _ t : ByteArray => decide (t.size = 1)) fun s t => bv (decide (0 ≤ indexB s (byte0 t)))) :=
  pureG2 (E1 ok_strings_Index) mixed hb_strings_Contains fun s t h => by
  simp [e_strings_Contains, envL, of_decide_eq_true h]

def labelB (b : UInt8) : Bool := decide ((b.toNat : Int) = 43) || (decide ((b.toNat : Int) = 45) || (decide ((b.toNat : Int) = 42) || (decide ((b.toNat : Int) = 47) || (decide ((b.toNat : Int) = 61) || (decide ((b.toNat : Int) = 40) || (decide ((b.toNat : Int) = 41) || (decide ((b.toNat : Int) = 46) || (decide ((b.toNat : Int) = 44) ||
  (isLow b || (decide ((48 : Int) ≤ (b.toNat : Int)) && decide ((b.toNat : Int) ≤ 57)))))))))))
def labelSet : ByteArray := ⟨#[48, 49, 50, 51, 52, 53, 54, 55, 56, 57, 43, 45, 42, 47, 61, 40, 41, 46, 44]⟩
theorem label_all : ∀ n : Fin 256, (isLow (UInt8.ofNat n.val) || decide (0 ≤ indexB labelSet (UInt8.ofNat n.val))) = labelB (UInt8.ofNat n.val) := by decide +kernel
theorem label_eq (b : UInt8) : (isLow b || decide (0 ≤ indexB labelSet b)) = labelB b := by
  have := label_all ⟨b.toNat, b.toNat_lt⟩
  simpa using this
def isLabel (s : ByteArray) : Bool := decide (s.size = 1) && labelB (byte0 s)

theorem ok_spec_l11Label : PureOK Try.prog n_spec_l11Label (T1 labelB) := pureT1 (E1 ok_spec_l01Small) mixed hb_spec_l11Label fun b => by
  cases hw : isLow b <;> simp [e_spec_l11Label, envL, labelB, hw]
  all_goals cases decide ((48 : Int) ≤ (b.toNat : Int)) <;> simp
  all_goals
    congr 1
    generalize decide ((b.toNat : Int) = 43) = c43
    generalize decide ((b.toNat : Int) = 45) = c45
    generalize decide ((b.toNat : Int) = 42) = c42
    generalize decide ((b.toNat : Int) = 47) = c47
    generalize decide ((b.toNat : Int) = 61) = c61
    generalize decide ((b.toNat : Int) = 40) = c40
    generalize decide ((b.toNat : Int) = 41) = c41
    generalize decide ((b.toNat : Int) = 46) = c46
    generalize decide ((b.toNat : Int) = 44) = c44
    generalize decide ((b.toNat : Int) ≤ 57) = d
    revert c43 c45 c42 c47 c61 c40 c41 c46 c44 d
    decide +kernel

theorem ok_impl_IsLabel : PureOK Try.prog n_impl_IsLabel (T1 isLabel) := pureT1 (E2 ok_impl_isLetter ok_strings_Contains) mixed hb_impl_IsLabel fun s => by
  by_cases h1 : s.size = 1
  · have h5 : aIndexStr (sv s) (iv 0) = some (bt (byte0 s)) := by
      rw [idx_str, h1, one_byte h1]
      rfl
    have hl := label_eq (byte0 s)
    unfold labelSet at hl
    cases hw : isLow (byte0 s)
    · rw [hw] at hl
      simp at hl
      simp [e_impl_IsLabel, envL, h5, h1, hw, isLabel, hl]
    · rw [hw] at hl
      simp at hl
      simp [e_impl_IsLabel, envL, h5, h1, hw, isLabel, hl]
  · have h2 : ¬ ((s.size : Nat) : Int) = 1 := by omega
    simp [e_impl_IsLabel, h2, h1, isLabel]

theorem ok_spec_IsLabel : PureOK Try.prog n_spec_IsLabel (T1 isLabel) := pureT1 (E1 ok_spec_l11Label) mixed hb_spec_IsLabel fun s => by
  by_cases h1 : s.size = 1
  · have h5 : aIndexStr (sv s) (iv 0) = some (bt (byte0 s)) := by
      rw [idx_str, h1, one_byte h1]
      rfl
    simp [e_spec_IsLabel, envL, h5, h1, isLabel]
  · have h2 : ¬ ((s.size : Nat) : Int) = 1 := by omega
    simp [e_spec_IsLabel, h2, h1, isLabel]

def okSym (s : Symbol) : Bool := isLabel s.label && validBox s.box
def validSymbols (l : List Symbol) : Bool := decide (l.length ≤ 8) && l.all okSym
theorem ok_impl_ValidSymbols_1 : PureOK Try.prog n_impl_ValidSymbols_1 (T1 fun s : Symbol => !okSym s) := pureT1 (E2 ok_impl_IsLabel ok_impl_ValidBox) mixed hb_impl_ValidSymbols_1 fun s => by
  simp [e_impl_ValidSymbols_1, envL, aBox, aLoad, cut, okSym]

theorem ok_slices_ContainsFunc_impl_Symbol_impl_Symbol {g : Nat} {p : Symbol → Bool} (hg : PureOK Try.prog g (T1 p)) : PureOK Try.prog n_slices_ContainsFunc_impl_Symbol_impl_Symbol (G2 (fun (q : Sl Symbol) (_ : Clo0 g) => fit q) fun q _ => bv ((q.getD []).any p)) :=
  pureG2 (E1 (ok_slices_IndexFunc_impl_Symbol_impl_Symbol hg)) mixed hb_slices_ContainsFunc_impl_Symbol_impl_Symbol fun q _ hq => by
  simp [e_slices_ContainsFunc_impl_Symbol_impl_Symbol, envL, hq, findI_any]

theorem ok_impl_ValidSymbols : PureOK Try.prog n_impl_ValidSymbols (G1 (fun q : Sl Symbol => fit q) fun q => bv (validSymbols (q.getD []))) :=
  pureG1 (E1 (ok_slices_ContainsFunc_impl_Symbol_impl_Symbol ok_impl_ValidSymbols_1)) mixed hb_impl_ValidSymbols fun q hq => by
  have T := lookT q (w := 5) rfl
  have hn := not_any_not okSym (q.getD [])
  by_cases h : (q.getD []).length ≤ 8
  · have h' : ((q.getD []).length : Int) ≤ 8 := by omega
    simp [e_impl_ValidSymbols, envL, T.len, h', h, hq, validSymbols] at hn ⊢
    rw [hn, Bool.not_not]
  · have h' : ¬ ((q.getD []).length : Int) ≤ 8 := by omega
    simp [e_impl_ValidSymbols, envL, T.len, h', h, hq, validSymbols]

theorem lp_spec_l20Ok (env : Nat → Contract) (he : env n_spec_l02Box = .pure (T1 validBox)) (hf : env n_spec_IsLabel = .pure (T1 isLabel)) {y1 y26 y27 y28 : AV} (q : Sl Symbol) (hq : fit q = true) :
    (obind (loopP hm0_spec_l20Ok xm0_spec_l20Ok (lb0_spec_l20Ok env) [Sl.enc q, y1, .top, iv 0, .top, .top, .top, .top, .top, .top, .top, .top, .top, .top, .top, .top, .top, .top, .top, .top, .top, .top, .top, .top, .top, .top, y26, y27, y28] []) fun r => lk0_spec_l20Ok env r.1 r.2.1 r.2.2) = some (bv (validSymbols (q.getD [])), []) := by
  have T := lookT q (w := 5) rfl
  have L := loop_over (q.getD []) (fit_max hq) (hmk := hm0_spec_l20Ok) (xm := xm0_spec_l20Ok) (body := lb0_spec_l20Ok env) (K := fun r => lk0_spec_l20Ok env r.1 r.2.1 r.2.2) (σ := Unit) (fun _ (i : Nat) => [Sl.enc q, y1, .top, iv (i : Nat), .top, .top, .top, .top, .top, .top, .top, .top, .top, .top, .top, .top, .top, .top, .top, .top, .top, .top, .top, .top, .top, .top, y26, y27, y28]) (fun s => [])
    (fun _ suf => (q.getD []).all okSym = suf.all okSym) (fun _ _ => some (bv (validSymbols (q.getD [])), []))
    (fun pre k suf s hl hi S => by
      cases hk : okSym k
      · left
        have : validSymbols (q.getD []) = false := by simp only [validSymbols, hi]; simp [hk]
        rw [loopP.eq_1, this]
        unfold okSym at hk
        cases k1 : isLabel k.label
        · simp [e_lb0_spec_l20Ok, T.len, T.idx, T.fld, T.load, S.idx, S.lt, S.elt, cut, S.wr, he, hf, k1, restr, e_lk0r_spec_l20Ok]
        · rw [k1] at hk
          simp at hk
          simp [e_lb0_spec_l20Ok, T.len, T.idx, T.fld, T.load, S.idx, S.lt, S.elt, cut, S.wr, he, hf, k1, hk, restr, e_lk0r_spec_l20Ok]
      · right
        refine ⟨(), by rw [hi]; simp [hk], ?_, rfl⟩
        rw [loopP.eq_1]
        unfold okSym at hk
        simp at hk
        simp [e_lb0_spec_l20Ok, T.len, T.idx, T.fld, T.load, S.idx, S.lt, S.elt, cut, S.wr, he, hf, hk.1, hk.2, restr])
    (fun s hi => by
      have c8 : ((((q.getD []).length : Nat) : Int) ≤ 8) = ((q.getD []).length ≤ 8) := propext ⟨by omega, by omega⟩
      have : validSymbols (q.getD []) = decide ((q.getD []).length ≤ 8) := by simp only [validSymbols, hi]; simp
      rw [loopP.eq_1, this]
      simp [e_lb0_spec_l20Ok, T.len, restr, e_lk0x0_spec_l20Ok, c8]) () rfl
  simpa using L
theorem ok_spec_l20Ok : PureOK Try.prog n_spec_l20Ok (G1 (fun q : Sl Symbol => fit q) fun q => bv (validSymbols (q.getD []))) :=
  pureG1 (E2 ok_spec_l02Box ok_spec_IsLabel) mixed hb_spec_l20Ok fun q hq => by
  have L := fun env he hf {y1 y26 y27 y28} => @lp_spec_l20Ok env he hf y1 y26 y27 y28 q hq
  simp [e_spec_l20Ok, envL, L]

theorem ok_spec_ValidSymbols : PureOK Try.prog n_spec_ValidSymbols (G1 (fun q : Sl Symbol => fit q) fun q => bv (validSymbols (q.getD []))) :=
  pureG1 (E1 ok_spec_l20Ok) mixed hb_spec_ValidSymbols fun q hq => by
  simp [e_spec_ValidSymbols, envL, hq]

theorem ok_laws_FnExactValidSymbols : PureOK Try.prog n_laws_FnExactValidSymbols (G1 (fun a : Sl Symbol => Wt.big a) fun _ => bv true) :=
  pureG1 (E5 ok_laws_szSymbolS ok_laws_toSymbolS ok_spec_ValidSymbols ok_impl_ValidSymbols ok_laws_eqSymbolS) mixed hb_laws_FnExactValidSymbols fun a h => by
  have s1 : szOK a 1048576 = true := by simp [szOK, h]
  by_cases h1 : (1048576 : Int) < (Wt.wt a : Nat)
  · simp [e_laws_FnExactValidSymbols, envL, s1, szR_lt h1]
  · have r1 : ¬ (1048576 : Int) - (Wt.wt a : Nat) < 0 := by omega
    have f1 : fit a = true := fit_wt h1 (by decide)
    simp [e_laws_FnExactValidSymbols, envL, s1, szR_ge h1, r1, f1, hand_nws, snapD_nws, fit_norm f1]
theorem law_FnExactValidSymbols (a : Sl Symbol) (ha : Row.fine a) : G1 (fun a : Sl Symbol => Wt.big a) (fun _ => bv true) [enc a] = some (bv true) := G1_enc _ _ a (Wt.fb a ha)

theorem isC_9 {cs : List AV} (h : IsC Try.prog 9 cs) : ∃ x : ByteArray, cs = Row.cells x ∧ Row.fine x := by
  obtain ⟨n, rfl, hn⟩ := IsC.strE Try.underlying9 h
  exact ⟨n, rfl, hn⟩
theorem isC_2 {cs : List AV} (h : IsC Try.prog 2 cs) : ∃ x : Int, cs = Row.cells x ∧ Row.fine x := by
  obtain ⟨n, rfl, hn⟩ := IsC.intE Try.underlying2 h
  exact ⟨n, rfl, fine_int hn⟩
theorem isC_74 {cs : List AV} (h : IsC Try.prog 74 cs) : ∃ x : Box, cs = Row.cells x ∧ Row.fine x := by
  replace h := IsC.structE Try.underlying74 h
  obtain ⟨c0, r0, rfl, q0, k0⟩ := IsFs.consE h
  obtain ⟨c1, r1, rfl, q1, k1⟩ := IsFs.consE k0
  obtain ⟨c2, r2, rfl, q2, k2⟩ := IsFs.consE k1
  obtain ⟨c3, r3, rfl, q3, k3⟩ := IsFs.consE k2
  cases IsFs.nilE k3
  obtain ⟨v0, rfl, w0⟩ := isC_2 q0
  obtain ⟨v1, rfl, w1⟩ := isC_2 q1
  obtain ⟨v2, rfl, w2⟩ := isC_2 q2
  obtain ⟨v3, rfl, w3⟩ := isC_2 q3
  exact ⟨⟨v0, v1, v2, v3⟩, rfl, w0, w1, w2, w3⟩
theorem isC_76 {cs : List AV} (h : IsC Try.prog 76 cs) : ∃ x : Symbol, cs = Row.cells x ∧ Row.fine x := by
  replace h := IsC.structE Try.underlying76 h
  obtain ⟨c0, r0, rfl, q0, k0⟩ := IsFs.consE h
  obtain ⟨c1, r1, rfl, q1, k1⟩ := IsFs.consE k0
  cases IsFs.nilE k1
  obtain ⟨v0, rfl, w0⟩ := isC_9 q0
  obtain ⟨v1, rfl, w1⟩ := isC_74 q1
  exact ⟨⟨v0, v1⟩, rfl, w0, w1⟩
theorem isC_33 {cs : List AV} (h : IsC Try.prog 33 cs) : ∃ x : (Sl Symbol), cs = Row.cells x ∧ Row.fine x := by
  rcases IsC.sliceE Try.underlying33 h with rfl | ⟨rows, rfl, h1, h2⟩
  · exact ⟨none, rfl, Sl.fineNil⟩
  · exact Sl.isC (by kernel_rfl) h1 fun row hr => isC_76 (h2 row hr)
theorem own : ownKnob Try.prog.godebug = none := by kernel_rfl
theorem laidOut : laidOutB Try.prog = true := by kernel_rfl

set_option maxRecDepth 100000 in
theorem holds : Rows.FnExactValidSymbolsSaid :=
  OpenClaim.holds_of_wide 4 Try.f4 rfl rfl rfl rfl rfl rfl rfl ⟨rfl, rfl, rfl, rfl, rfl⟩ rfl rfl rfl rfl rfl (by kernel_rfl) Try.func4 (by kernel_rfl)
    (of_decide_eq_true (by kernel_rfl)) (by unfold Func.isWrapper; rw [if_neg (by decide +kernel)]; exact ⟨rfl, rfl⟩)
    (fun os started H enc _ => law_lifted (C := Try.checked) (s := Rows.fnExactValidSymbolsSpec) own started (by kernel_rfl) Try.func4
      (ChangeSpec.witness6 (enc := enc) (C := Try.checked) false ⟨#[], #[.slice none 0 0], []⟩ 8 (by kernel_rfl) (by kernel_rfl) (by kernel_rfl) (by kernel_rfl))
      laidOut rfl (tb := 4) rfl Try.underlying4 (ts := [33, 76, 9, 74, 2]) (by kernel_rfl)
      (fun ds h => by match ds, h with | [d0], _ => rfl)
      hb_laws_FnExactValidSymbols ok_laws_FnExactValidSymbols (by
    intro l h
    obtain ⟨a0, l0, rfl, g0, k0⟩ := h
    cases k0
    obtain ⟨b0, e0, w0⟩ := isC_33 (isV_one (by kernel_rfl) g0)
    obtain rfl := one_enc e0
    exact law_FnExactValidSymbols b0 w0))
#print axioms holds
end Go.Proofs.Ytfladjnggkeiaab
