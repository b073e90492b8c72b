/-
  The law FnExactTokensOf holds, for all arguments: it returns true, and its arguments read behind the call as before. No condition.
-/
import Derived.Test.YtfladjnggkeiaaaFnExactTokensOfGen
import Derived.Test.YtfladjnggkeiaaaRows
namespace Go.Proofs.Ytfladjnggkeiaaa
open Go Go.Eng Go.Eng.Cod
set_option maxRecDepth 100000

def isLow (b : UInt8) : Bool := decide ((97 : Int) ≤ (b.toNat : Int)) && decide ((b.toNat : Int) ≤ 122)

theorem ok_impl_isLetter : PureOK Try.prog n_impl_isLetter (T1 isLow) := pureT1 E0 mixed hb_impl_isLetter fun b => by
  simp [e_impl_isLetter, isLow]

theorem ok_spec_l01Small : PureOK Try.prog n_spec_l01Small (T1 isLow) := pureT1 E0 mixed hb_spec_l01Small fun b => by
  simp [e_spec_l01Small, isLow]

theorem ok_internal_bytealg_IndexByteString : PureOK Try.prog n_internal_bytealg_IndexByteString (T2 indexB) :=
  pure_indexByte (fn := Try.f93) Try.func93 (by kernel_rfl) (by kernel_rfl) (by kernel_rfl) (by kernel_rfl)

theorem ok_internal_stringslite_IndexByte : PureOK Try.prog n_internal_stringslite_IndexByte (T2 indexB) := pureT2 (E1 ok_internal_bytealg_IndexByteString) mixed hb_internal_stringslite_IndexByte fun s b => by
  simp [e_internal_stringslite_IndexByte, envL]

theorem lp_laws_eqStringS (env : Nat → Contract) (q p : Sl ByteArray) (hq : fit q = true) (hl : (q.getD []).length = (p.getD []).length) : obind (loopP hm0_laws_eqStringS xm0_laws_eqStringS (lb0_laws_eqStringS env) [Sl.enc q, Sl.enc p, und, und, .top, iv 0, Sl.enc q, iv ((q.getD []).length : Nat), Sl.enc p, iv ((p.getD []).length : Nat), bv false, .top, .top, .top, .top, .top, .top, .top, .top, .top, .top, .top, .top, .top, .top, .top] []) (fun r => lk0_laws_eqStringS env r.1 r.2.1 r.2.2) = some (bif decide (q.getD [] = p.getD []) then (bv true, []) else (bv false, [])) := by
  have T := lookT q (w := 1) rfl
  have U := lookT p (w := 1) rfl
  have L := loop_eq (A := ByteArray) hl (fit_max hq) (hmk := hm0_laws_eqStringS) (xm := xm0_laws_eqStringS) (body := lb0_laws_eqStringS env) (K := fun r => lk0_laws_eqStringS env r.1 r.2.1 r.2.2) [] (fun i => [Sl.enc q, Sl.enc p, und, und, .top, iv (i : Int), Sl.enc q, iv ((q.getD []).length : Nat), Sl.enc p, iv ((p.getD []).length : Nat), bv false, .top, .top, .top, .top, .top, .top, .top, .top, .top, .top, .top, .top, .top, .top, .top]) (bv true, []) (bv false, [])
    (by
      intro pre x y S h1 h2 h3
      have h4 : (p.getD [])[pre.length] = y := by simpa [h3] using h2
      rw [loopP.eq_1]
      simp [e_lb0_laws_eqStringS, T.len, T.idx, T.load, U.idx, U.load, S.idx, S.lt, S.elt, h1, h3, h4, cut, S.wr]
      cases decide (x = y) <;> simp [restr, e_lk0r_laws_eqStringS])
    (by
      rw [loopP.eq_1]
      simp [e_lb0_laws_eqStringS, T.len, restr, e_lk0x0_laws_eqStringS])
  simpa using L
theorem ok_laws_eqStringS : PureOK Try.prog n_laws_eqStringS (G2 (fun q _ : Sl ByteArray => fit q) fun q p => bv (decide (q.getD [] = p.getD []))) :=
  pureG2 E0 mixed hb_laws_eqStringS fun q p hq => by
  have T := lookT q (w := 1) rfl
  have U := lookT p (w := 1) rfl
  by_cases hl : (q.getD []).length = (p.getD []).length
  · have L := fun env => lp_laws_eqStringS env q p hq hl
    simp [e_laws_eqStringS, T.len, U.len, hl] at L ⊢
    simp [L]
  · have h2 : ¬ q.getD [] = p.getD [] := fun e => hl (by rw [e])
    have h3 : ¬ ((q.getD []).length : Int) = (p.getD []).length := by omega
    simp [e_laws_eqStringS, T.len, U.len, h3, h2]

/-- The digits of a number, ahead of a text. -/
def digT (k : Nat) (out : ByteArray) : ByteArray := if _h : k = 0 then out else digT (k / 10) (⟨#[(48 + k % 10).toUInt8]⟩ ++ out)
termination_by k
decreasing_by omega
def markT (k : Nat) : ByteArray := bif decide (k = 0) then ⟨#[109, 48]⟩ else ⟨#[109]⟩ ++ digT k ⟨#[]⟩
theorem size_one (b : UInt8) (out : ByteArray) : ((⟨#[b]⟩ : ByteArray) ++ out).size = 1 + out.size := by
  rw [ByteArray.size_append]
  rfl
theorem add_str (a b : ByteArray) (h : a.size + b.size ≤ 4294967296) : aBin .add (sv a) (sv b) = some (sv (a ++ b)) := by
  have h0 : aBin .add (sv a) (sv b) = (match (if ((a.size + b.size : Nat) : Int) ≤ 9223372036854775807 then some (Value.string (a ++ b)) else none) with | some v => some (AV.sc v) | none => none) := rfl
  rw [h0, if_pos (by omega)]
  rfl
theorem digT_size : ∀ (k : Nat) (out : ByteArray), (digT k out).size ≤ k + out.size := by
  intro k out
  induction k, out using digT.induct with
  | case1 out => rw [digT]; simp
  | case2 k out h ih =>
    rw [digT, dif_neg h]
    rw [size_one] at ih
    omega

theorem lp_laws_markText (env : Nat → Contract) {y1 y2 y4 y5 y18 y19 : AV} : ∀ (k : Nat) (out : ByteArray) (h : Heap), k ≤ 8589934592 → k + out.size ≤ 1000000 →
    ((obind (loopP hm0_laws_markText xm0_laws_markText (lb0_laws_markText env) [iv (k : Nat), y1, y2, sv out, y4, y5, .top, .top, .top, .top, .top, .top, .top, .top, .top, .top, .top, .top, y18, y19] h) fun r => lk0_laws_markText env r.1 r.2.1 r.2.2).map Prod.fst) = some (sv (⟨#[109]⟩ ++ digT k out)) := by
  intro k out
  induction k, out using digT.induct with
  | case1 out =>
    intro h h1 h2
    rw [loopP.eq_1, digT]
    have hs : (⟨#[109]⟩ : ByteArray).size = 1 := rfl
    have ha := add_str ⟨#[109]⟩ out (by omega)
    simp [e_lb0_laws_markText, restr, e_lk0x0_laws_markText, ha]
  | case2 k out hk ih =>
    intro h h1 h2
    have ih' := fun h => ih h (by omega) (by rw [size_one]; omega)
    have p : (0 : Int) < (k : Int) := by omega
    have a1 : (k : Int).tmod 10 = ((k % 10 : Nat) : Int) := by
      have := Int.ofNat_tmod k 10
      exact this.symm
    have a2 : wr (48 + ((k % 10 : Nat) : Int)) = ((48 + k % 10 : Nat) : Int) := by rw [wr_id (by omega) (by omega)]; omega
    have a3 : aConvInt .u8 (iv ((48 + k % 10 : Nat) : Int)) = some (bt (48 + k % 10).toUInt8) := by
      have h0 : aConvInt .u8 (iv ((48 + k % 10 : Nat) : Int)) = some (.sc (.int .u8 (IntKind.u8.wrap ((48 + k % 10 : Nat) : Int)))) := rfl
      rw [h0]
      unfold bt
      congr 3
    have a4 : (k : Int).tdiv 10 = ((k / 10 : Nat) : Int) := (Int.ofNat_tdiv k 10).symm
    have a5 : wr ((k / 10 : Nat) : Int) = ((k / 10 : Nat) : Int) := wr_id (by omega) (by omega)
    have a6 : ∀ b : UInt8, ∀ h : Heap, aBuildSlice [.sc (.int .u8 0)] 1 [(0, bt b)] h = some (.sl h.length 1 0 1, h ++ [⟨1, [[bt b]]⟩]) := fun b h => rfl
    have a7 : ∀ b : UInt8, ∀ h : Heap, aConvStr (.sl h.length 1 0 1) (h ++ [⟨1, [[bt b]]⟩]) = some (sv ⟨#[b]⟩) := by
      intro b h
      have h0 : aSrc false 1 (.sl h.length 1 0 1) (h ++ [⟨1, [[bt b]]⟩]) = some [[bt b]] := by
        simp [aSrc]
      unfold aConvStr
      rw [h0]
      have h1 : bytesOf [[bt b]] = some [b] := by
        show (match bytesOf [] with | some l => some (((b.toNat : Int)).toNat.toUInt8 :: l) | none => none) = _
        simp [bytesOf]
      show (match bytesOf [[bt b]] with | some l => some (AV.sc (Value.string ⟨l.toArray⟩)) | none => none) = _
      rw [h1]
      rfl
    have a8 := add_str ⟨#[(48 + k % 10).toUInt8]⟩ out (by have : (⟨#[(48 + k % 10).toUInt8]⟩ : ByteArray).size = 1 := rfl; omega)
    rw [loopP.eq_1, digT, dif_neg hk]
    simp only [e_lb0_laws_markText, aBin_gtr, obind_sm, condB_bv, p, decide_true, cond_true, aBin_rem _ 10 (by decide), a1, aBin_add, a2, a3, a6, obind2_sm, a7, a8, aBin_quo _ 10 (by decide), a4, a5, restr, cond_false]
    exact ih' _
theorem ok_laws_markText : PureOK Try.prog n_laws_markText (G1 (fun k : Int => decide (0 ≤ k) && decide (k ≤ 100000)) fun k => sv (markT k.toNat)) :=
  pureG1 E0 mixed hb_laws_markText fun k h => by
  simp at h
  obtain ⟨m, rfl⟩ := Int.eq_ofNat_of_zero_le h.1
  refine plain_of rfl ?_
  by_cases hz : m = 0
  · subst hz
    simp [e_laws_markText, markT]
  · have hz' : ¬ ((m : Nat) : Int) ≤ 0 := by omega
    have hs : (⟨#[]⟩ : ByteArray).size = 0 := rfl
    have L := fun env {y1 y2 y4 y5 y18 y19} h => @lp_laws_markText env y1 y2 y4 y5 y18 y19 m ⟨#[]⟩ h (by omega) (by omega)
    rw [e_laws_markText]
    simp only [enc_int, aBin_leq, obind_sm, condB_bv, hz', decide_false, cond_false, L, Int.toNat_natCast, markT, hz]

def marksS : Nat → Nat → List ByteArray
  | _, 0 => []
  | k, n + 1 => markT k :: marksS (k + 1) n
@[simp] theorem marksS_len : ∀ (k n : Nat), (marksS k n).length = n
  | _, 0 => rfl
  | k, n + 1 => by simp [marksS, marksS_len (k + 1) n]
theorem lp_laws_markStringS (env : Nat → Contract) (he : env n_laws_markText = .pure (G1 (fun k : Int => decide (0 ≤ k) && decide (k ≤ 100000)) fun k => sv (markT k.toNat))) {y2 y3 y4 y19 : AV} (o n : Nat) (hn : n ≤ 1000) : ∀ (suf : List ByteArray) (pre : List ByteArray) (k i : Nat) (h : Heap), i = pre.length → i + suf.length = n → k ≤ 2000 + i → h[o]? = some ⟨1, (pre ++ suf).map Row.cells⟩ →
    (obind (loopP hm0_laws_markStringS xm0_laws_markStringS (lb0_laws_markStringS env) [.sl o n 0 n, iv (k : Nat), y2, y3, y4, iv (i : Nat), .top, .top, .top, .top, .top, .top, .top, .top, .top, .top, .top, .top, .top, y19] h) fun r => lk0_laws_markStringS env r.1 r.2.1 r.2.2) = some (iv ((k + suf.length : Nat) : Int), h.set o ⟨1, (pre ++ marksS k suf.length).map Row.cells⟩) := by
  intro suf
  induction suf with
  | nil =>
    intro pre k i h hi hl hk ho
    have : ¬ i < n := by simp at hl; omega
    have hs : h.set o ⟨1, pre.map Row.cells⟩ = h := by
      have ho' : h[o]? = some ⟨1, pre.map Row.cells⟩ := by simpa using ho
      obtain ⟨hlt, e⟩ := List.getElem?_eq_some_iff.1 ho'
      rw [← e]
      exact List.set_getElem_self hlt
    rw [loopP.eq_1]
    simp [e_lb0_laws_markStringS, restr, e_lk0x0_laws_markStringS, this, marksS, hs]
  | cons x suf ih =>
    intro pre k i h hi hl hk ho
    have hl' : i + 1 + suf.length = n := by simp at hl; omega
    have hlt : i < n := by omega
    have i1 : idx (iv (i : Int)) n = some i := idx_lt hlt
    have a1 : wr ((k : Int) + 1) = ((k + 1 : Nat) : Int) := by rw [wr_id (by omega) (by omega)]; omega
    have a2 : wr ((i : Int) + 1) = ((i + 1 : Nat) : Int) := by rw [wr_id (by omega) (by omega)]; omega
    have a0 : (0 ≤ (k : Int)) = True := eq_true (by omega)
    have a4 : ((k : Int) ≤ 100000) = True := eq_true (by omega)
    have hlen : ((pre ++ x :: suf).map (Row.cells (A := ByteArray))).length = n := by simp; omega
    have ad : aIndexAddr 1 (.sl o n 0 n) (iv (i : Int)) h = some (.ptr o n i 0) := by
      simp only [aIndexAddr, ho, hlen, i1, and_self, if_true, Nat.zero_add]
    have hst : aStore 1 (.ptr o n i 0) (sv (markT k)) h = some (h.set o ⟨1, ((pre ++ [markT k]) ++ suf).map Row.cells⟩) := by
      have hg : ((pre ++ x :: suf).map (Row.cells (A := ByteArray)))[i]? = some [sv x] := by simp [hi]
      simp only [aStore, ho, hlen, if_true, hg]
      rw [if_pos ⟨rfl, by simp, rfl⟩]
      congr 3
      rw [hi]
      simp [splice]
    have holt : o < h.length := (List.getElem?_eq_some_iff.1 ho).1
    have r := ih (pre ++ [markT k]) (k + 1) (i + 1) (h.set o ⟨1, ((pre ++ [markT k]) ++ suf).map Row.cells⟩) (by simp [hi]) hl' (by omega) (by simp [holt])
    rw [loopP.eq_1]
    simp [-Int.natCast_add, e_lb0_laws_markStringS, hlt, he, a0, a4, ad, hst, a1, a2, restr]
    simp [-Int.natCast_add] at r
    rw [r]
    simp [marksS, Nat.add_assoc, Nat.add_comm 1]
theorem gen_laws_markStringS (env : Nat → Contract) (he : env n_laws_markText = .pure (G1 (fun k : Int => decide (0 ≤ k) && decide (k ≤ 100000)) fun k => sv (markT k.toNat))) (l : List ByteArray) (o n : Nat) (hn : l.length = n) (hl : n ≤ 1000) (h : Heap) (ho : h[o]? = some ⟨1, l.map Row.cells⟩) :
    denFn Try.prog env n_laws_markStringS [.sl o n 0 n, iv 1] h = some (iv ((1 + n : Nat) : Int), h.set o ⟨1, (marksS 1 n).map Row.cells⟩) := by
  have L := fun {y2 y3 y4 y19} => @lp_laws_markStringS env he y2 y3 y4 y19 o n hl l [] 1 0 h rfl (by simpa using hn) (by omega) (by simpa using ho)
  rw [hn] at L
  simp [-Int.natCast_add] at L
  simp [-Int.natCast_add, e_laws_markStringS, L]
theorem gen0_laws_markStringS (env : Nat → Contract) (h : Heap) : denFn Try.prog env n_laws_markStringS [nilS, iv 1] h = some (iv 1, h) := by
  rw [e_laws_markStringS, loopP.eq_1]
  simp [e_lb0_laws_markStringS, restr, e_lk0x0_laws_markStringS]

def heldS : List ByteArray → Nat → Int
  | [], k => (k : Int)
  | x :: r, k => bif decide (x = markT k) then heldS r (k + 1) else -1
theorem held_marks : ∀ (k n : Nat), heldS (marksS k n) k = ((k + n : Nat) : Int)
  | k, 0 => rfl
  | k, n + 1 => by
    simp only [marksS, heldS, decide_true, cond_true, held_marks (k + 1) n]
    omega
theorem lp_laws_heldStringS (env : Nat → Contract) (he : env n_laws_markText = .pure (G1 (fun k : Int => decide (0 ≤ k) && decide (k ≤ 100000)) fun k => sv (markT k.toNat))) {y2 y3 y21 : AV} (q : Sl ByteArray) (hq : (q.getD []).length ≤ 1000) (k0 : Nat) (hk0 : k0 ≤ 1000) :
    (obind (loopP hm0_laws_heldStringS xm0_laws_heldStringS (lb0_laws_heldStringS env) [Sl.enc q, iv (k0 : Nat), y2, y3, .top, iv 0, .top, .top, .top, .top, .top, .top, .top, .top, .top, .top, .top, .top, .top, .top, .top, y21] []) fun r => lk0_laws_heldStringS env r.1 r.2.1 r.2.2) = some (iv (heldS (q.getD []) k0), []) := by
  have T := lookT q (w := 1) rfl
  exact loop_over (q.getD []) (by rw [maxLen_eq]; omega) (hmk := hm0_laws_heldStringS) (xm := xm0_laws_heldStringS) (body := lb0_laws_heldStringS env) (K := fun r => lk0_laws_heldStringS env r.1 r.2.1 r.2.2) (σ := Nat) (fun (k : Nat) (i : Nat) => [Sl.enc q, iv k, y2, y3, .top, iv (i : Nat), .top, .top, .top, .top, .top, .top, .top, .top, .top, .top, .top, .top, .top, .top, .top, y21]) (fun _ => [])
    (fun k suf => k + suf.length ≤ 2000) (fun k suf => some (iv (heldS suf k), []))
    (fun pre x suf k hl hi S => by
      simp at hi
      have a0 : (0 ≤ (k : Int)) = True := eq_true (by omega)
      have a4 : ((k : Int) ≤ 100000) = True := eq_true (by omega)
      have a1 : wr ((k : Int) + 1) = ((k + 1 : Nat) : Int) := by rw [wr_id (by omega) (by omega)]; omega
      by_cases hx : x = markT k
      · right
        refine ⟨k + 1, by omega, ?_, by simp [heldS, hx]⟩
        rw [loopP.eq_1]
        simp [e_lb0_laws_heldStringS, T.len, T.idx, T.load, S.idx, S.lt, S.elt, cut, S.wr, he, a0, a4, hx, a1, restr]
      · left
        rw [loopP.eq_1]
        simp [e_lb0_laws_heldStringS, T.len, T.idx, T.load, S.idx, S.lt, S.elt, cut, S.wr, he, a0, a4, hx, restr, e_lk0r_laws_heldStringS, heldS])
    (fun k hi => by
      rw [loopP.eq_1]
      simp [e_lb0_laws_heldStringS, T.len, restr, e_lk0x0_laws_heldStringS, heldS]) k0 (by omega)
theorem ok_laws_heldStringS : PureOK Try.prog n_laws_heldStringS (G2 (fun (q : Sl ByteArray) (k : Int) => decide ((q.getD []).length ≤ 1000) && decide (k = 1)) fun q _ => iv (heldS (q.getD []) 1)) :=
  pureG2 (E1 ok_laws_markText) mixed hb_laws_heldStringS fun q k h => by
  simp at h
  obtain ⟨h1, rfl⟩ := h
  have L := fun env he {y2 y3 y21} => @lp_laws_heldStringS env he y2 y3 y21 q h1 1 (by omega)
  simp at L
  simp [e_laws_heldStringS, L, envL]

def isDig (b : UInt8) : Bool := decide ((48 : Int) ≤ (b.toNat : Int)) && decide ((b.toNat : Int) ≤ 57)
def signSet : ByteArray := ⟨#[43, 45, 42, 47, 94, 40, 41, 82]⟩
def isSign (b : UInt8) : Bool := (bl signSet).any (fun c => decide (c = b)) || isLow b
theorem sign_all : ∀ n : Fin 256, (!isLow (UInt8.ofNat n.val) && decide (indexB signSet (UInt8.ofNat n.val) < 0)) = !isSign (UInt8.ofNat n.val) := by decide +kernel
theorem sign_eq (b : UInt8) : (!isLow b && decide (indexB signSet b < 0)) = !isSign b := by
  have := sign_all ⟨b.toNat, b.toNat_lt⟩
  simpa using this
/-- Behind the digits. -/
def dEnd (l : List UInt8) : Nat → Nat → Nat
  | 0, e => e
  | f + 1, e => match l[e]? with
    | some b => bif isDig b then dEnd l f (e + 1) else e
    | none => e
theorem dEnd_le (l : List UInt8) : ∀ (f e : Nat), e ≤ l.length → e ≤ dEnd l f e ∧ dEnd l f e ≤ l.length
  | 0, e, h => ⟨Nat.le_refl _, h⟩
  | f + 1, e, h => by
    unfold dEnd
    by_cases he : e < l.length
    · rw [List.getElem?_eq_getElem he]
      simp only
      cases isDig l[e]
      · exact ⟨Nat.le_refl _, h⟩
      · have := dEnd_le l f (e + 1) (by omega)
        exact ⟨by simp only [cond_true]; omega, by simp only [cond_true]; omega⟩
    · rw [List.getElem?_eq_none (by omega)]
      exact ⟨Nat.le_refl _, h⟩
/-- The end of the token at `k`. -/
def tEnd (s : ByteArray) (k : Nat) : Nat := match (bl s)[k]? with
  | some b => bif isDig b then dEnd (bl s) s.size (k + 1) else k + 1
  | none => k + 1
def tOk (s : ByteArray) (k : Nat) : Bool := match (bl s)[k]? with
  | some b => isDig b || isSign b
  | none => true
def toks (s : ByteArray) : Nat → Nat → List ByteArray → Option (List ByteArray)
  | 0, _, acc => some acc
  | f + 1, k, acc => bif decide (k < s.size) then (bif tOk s k then toks s f (tEnd s k) (acc ++ [s.extract k (tEnd s k)]) else none) else some acc
theorem tEnd_le {s : ByteArray} {k : Nat} (h : k < s.size) : k < tEnd s k ∧ tEnd s k ≤ s.size := by
  have h' : k < (bl s).length := by rw [bl_len]; exact h
  unfold tEnd
  rw [List.getElem?_eq_getElem h']
  simp only
  cases isDig (bl s)[k]
  · simp only [cond_false]; omega
  · have := dEnd_le (bl s) s.size (k + 1) (by omega)
    rw [bl_len] at this
    simp only [cond_true]; omega
theorem slice_str (s : ByteArray) {k e : Nat} (h1 : k ≤ e) (h2 : e ≤ s.size) : aSliceStr (sv s) (some (iv (k : Int))) (some (iv (e : Int))) = some (sv (s.extract k e)) := by
  have i1 : idx (iv (e : Int)) (s.size + 1) = some e := idx_lt (by omega)
  have i2 : idx (iv (k : Int)) (e + 1) = some k := idx_lt (by omega)
  show (match bound (some (iv (e : Int))) s.size s.size with | some h => (match bound (some (iv (k : Int))) 0 h with | some l => some (AV.sc (.string (s.extract l h))) | none => none) | none => none) = _
  simp only [bound, i1, i2]
  rfl
/-- What has been gathered. -/
def Got (h : Heap) (x : AV) (l : List ByteArray) : Prop := ∃ o, x = .sl o l.length 0 l.length ∧ h[o]? = some ⟨1, l.map Row.cells⟩
def GotN (h : Heap) (x : AV) (l : List ByteArray) : Prop := (x = nilS ∧ l = []) ∨ (l ≠ [] ∧ Got h x l)
theorem src_one (h : Heap) (t : ByteArray) : aSrc false 1 (.sl h.length 1 0 1) (h ++ [⟨1, [[sv t]]⟩]) = some [[sv t]] := by
  simp [aSrc]
theorem got_app {h : Heap} {x : AV} {l : List ByteArray} (g : Got h x l) (hl : l.length ≤ 1000) (t : ByteArray) : ∃ x' h', aAppend false 1 16 x (.sl h.length 1 0 1) (h ++ [⟨1, [[sv t]]⟩]) = some (x', h') ∧ Got h' x' (l ++ [t]) := by
  obtain ⟨o, rfl, ho⟩ := g
  have holt := (List.getElem?_eq_some_iff.1 ho).1
  have ho' : (h ++ [⟨1, [[sv t]]⟩])[o]? = some ⟨1, l.map Row.cells⟩ := by rw [List.getElem?_append_left holt]; exact ho
  have hm : maxBytes = 140737488355328 := rfl
  refine ⟨.sl o (l.length + 1) 0 (l.length + 1), (h ++ [(⟨1, [[sv t]]⟩ : AObj)]).set o (⟨1, (l ++ [t]).map Row.cells⟩ : AObj), ?_, o, by simp, ?_⟩
  · unfold aAppend
    rw [src_one]
    simp only [ho', List.length_map, List.length_cons, List.length_nil, Nat.zero_add]
    rw [if_pos ⟨trivial, trivial, trivial, by omega, by omega, Nat.le_refl _⟩]
    congr 2
    · congr 1
      omega
    · congr 1
      have e1 : List.take l.length (l.map (Row.cells (A := ByteArray))) = l.map Row.cells := List.take_of_length_le (by simp)
      have e2 : List.drop (l.length + 1) (l.map (Row.cells (A := ByteArray))) = [] := List.drop_eq_nil_of_le (by simp)
      simp [e1, e2]
  · rw [List.getElem?_set_self (by simp; omega)]
theorem gotN_app {h : Heap} {x : AV} {l : List ByteArray} (g : GotN h x l) (hl : l.length ≤ 1000) (t : ByteArray) : ∃ x' h', aAppend false 1 16 x (.sl h.length 1 0 1) (h ++ [⟨1, [[sv t]]⟩]) = some (x', h') ∧ GotN h' x' (l ++ [t]) := by
  rcases g with ⟨rfl, rfl⟩ | ⟨hne, g⟩
  · refine ⟨.sl (h ++ [(⟨1, [[sv t]]⟩ : AObj)]).length 1 0 1, h ++ [⟨1, [[sv t]]⟩] ++ [⟨1, [[sv t]]⟩], ?_, .inr ⟨by simp, (h ++ [(⟨1, [[sv t]]⟩ : AObj)]).length, rfl, by simp⟩⟩
    have hm : maxBytes = 140737488355328 := rfl
    unfold aAppend
    rw [src_one]
    simp [nilS, hm]
  · obtain ⟨x', h', e, g'⟩ := got_app g hl t
    exact ⟨x', h', e, .inr ⟨by simp, g'⟩⟩
theorem one_tok (t : ByteArray) (h : Heap) : aBuildSlice [sv ⟨#[]⟩] 1 [(0, sv t)] h = some (.sl h.length 1 0 1, h ++ [⟨1, [[sv t]]⟩]) := rfl
theorem got_rel {h : Heap} {x : AV} {l : List ByteArray} (g : Got h x l) (c : AV) (hc : isSc c = true) : release h depth (.tup [x, c]) = some (.tup [nwl l, c]) := by
  obtain ⟨o, rfl, ho⟩ := g
  have R : Rels h 7 (.sl o l.length 0 l.length) (nwl l) o (o + 1) := by
    refine RelsR.sl (hi := o + 1) ho (by simp) (Nat.le_refl _) ?_
    have e1 : List.take l.length (l.map (Row.cells (A := ByteArray))) = l.map Row.cells := List.take_of_length_le (by simp)
    rw [e1]
    exact ⟨Nat.le_refl _, rel_rows h 6 l, by rw [ids_rows]; exact List.nodup_nil, by rw [ids_rows]; intro x hx; cases hx⟩
  exact (RelsL.tup (RelsL.cons R (RelsL.cons (Rels.sc (o + 1) hc) (RelsL.nil _)))).release
def nwo (l : List ByteArray) : AV := match l with
  | [] => nilS
  | _ => nwl l
theorem gotN_rel {h : Heap} {x : AV} {l : List ByteArray} (g : GotN h x l) (c : AV) (hc : isSc c = true) : release h depth (.tup [x, c]) = some (.tup [nwo l, c]) := by
  rcases g with ⟨rfl, rfl⟩ | ⟨hne, g⟩
  · exact (RelsL.tup (RelsL.cons (Rels.sc 0 rfl) (RelsL.cons (Rels.sc 0 hc) (RelsL.nil _)))).release
  · rw [got_rel g c hc]
    cases l with
    | nil => exact absurd rfl hne
    | cons a l => rfl

theorem ok_impl_isDigit : PureOK Try.prog n_impl_isDigit (T1 isDig) := pureT1 E0 mixed hb_impl_isDigit fun b => by
  simp [e_impl_isDigit, isDig]

theorem ok_spec_l01Digit : PureOK Try.prog n_spec_l01Digit (T1 isDig) := pureT1 E0 mixed hb_spec_l01Digit fun b => by
  simp [e_spec_l01Digit, isDig]

theorem ok_strings_IndexByte : PureOK Try.prog n_strings_IndexByte (T2 indexB) := pureT2 (E1 ok_internal_stringslite_IndexByte) mixed hb_strings_IndexByte fun s b => by
  simp [e_strings_IndexByte, envL]

theorem lp_spec_l22Sign (env : Nat → Contract) (he : env n_spec_l01Small = .pure (T1 isLow)) {y1 y16 y17 : AV} (b : UInt8) :
    (obind (loopP hm0_spec_l22Sign xm0_spec_l22Sign (lb0_spec_l22Sign env) [bt b, y1, .top, sv signSet, iv 0, .top, .top, .top, .top, .top, .top, .top, .top, .top, .top, .top, y16, y17] []) fun r => lk0_spec_l22Sign env r.1 r.2.1 r.2.2) = some (bv (isSign b), []) := by
  have hl : (bl signSet).length ≤ maxLen := by decide
  have hz : signSet.size = 8 := rfl
  have L := loop_over (bl signSet) hl (hmk := hm0_spec_l22Sign) (xm := xm0_spec_l22Sign) (body := lb0_spec_l22Sign env) (K := fun r => lk0_spec_l22Sign env r.1 r.2.1 r.2.2) (σ := Unit) (fun _ (i : Nat) => [bt b, y1, .top, sv signSet, iv (i : Nat), .top, .top, .top, .top, .top, .top, .top, .top, .top, .top, .top, y16, y17]) (fun _ => [])
    (fun _ suf => True) (fun _ suf => some (bv (suf.any (fun c => decide (c = b)) || isLow b), []))
    (fun pre k suf u hl hi S => by
      have S1 := S.idx
      have S2 := S.lt
      have S3 := S.elt
      simp at S1 S2 S3
      by_cases hk : k = b
      · left
        rw [loopP.eq_1]
        simp [e_lb0_spec_l22Sign, idx_str, S1, S2, S3, S.wr, hk, restr, e_lk0r_spec_l22Sign]
      · right
        refine ⟨(), trivial, ?_, by simp [hk]⟩
        rw [loopP.eq_1]
        simp [e_lb0_spec_l22Sign, idx_str, S1, S2, S3, S.wr, hk, restr])
    (fun u hi => by
      rw [loopP.eq_1]
      simp [e_lb0_spec_l22Sign, restr, e_lk0x0_spec_l22Sign, he]) () trivial
  simpa [isSign] using L
theorem ok_spec_l22Sign : PureOK Try.prog n_spec_l22Sign (T1 isSign) := pureT1 (E1 ok_spec_l01Small) mixed hb_spec_l22Sign fun b => by
  have L := fun env he {y1 y16 y17} => @lp_spec_l22Sign env he y1 y16 y17 b
  have hs : (⟨#[43, 45, 42, 47, 94, 40, 41, 82]⟩ : ByteArray) = signSet := rfl
  rw [e_spec_l22Sign, hs]
  simp [L, envL]

theorem li_impl_TokensOf (env : Nat → Contract) (he : env n_impl_isDigit = .pure (T1 isDig)) {y1 y2 y3 y4 y5 y7 y8 y9 y10 y11 y12 y13 y14 y15 y16 y17 y18 y19 y20 y21 y22 y35 y36 y37 y38 y39 y40 y41 y42 y43 y44 y45 y46 y47 y48 y49 y50 y51 y52 : AV} (s : ByteArray) (hs : s.size ≤ 1000) (h : Heap) : ∀ (f e : Nat), s.size ≤ e + f → e ≤ s.size →
    loopP hm1_impl_TokensOf xm1_impl_TokensOf (lb1_impl_TokensOf env) [sv s, y1, y2, y3, y4, y5, iv (e : Nat), y7, y8, y9, y10, y11, y12, y13, y14, y15, y16, y17, y18, y19, y20, y21, y22, .top, .top, .top, .top, .top, .top, .top, .top, .top, .top, .top, .top, y35, y36, y37, y38, y39, y40, y41, y42, y43, y44, y45, y46, y47, y48, y49, y50, y51, y52] h = some (.exit 3, [sv s, y1, y2, y3, y4, y5, iv (dEnd (bl s) f e : Nat), y7, y8, y9, y10, y11, y12, y13, y14, y15, y16, y17, y18, y19, y20, y21, y22, .top, .top, .top, .top, .top, .top, .top, .top, .top, .top, .top, .top, y35, y36, y37, y38, y39, y40, y41, y42, y43, y44, y45, y46, y47, y48, y49, y50, y51, y52], h) := by
  intro f
  induction f with
  | zero =>
    intro e h1 h2
    have : ¬ e < s.size := by omega
    rw [loopP.eq_1]
    simp [e_lb1_impl_TokensOf, this, restr, dEnd]
  | succ f ih =>
    intro e h1 h2
    rw [loopP.eq_1]
    by_cases he' : e < s.size
    · have hb : e < (bl s).length := by rw [bl_len]; exact he'
      obtain ⟨b, hbb⟩ : ∃ b, (bl s)[e]'hb = b := ⟨_, rfl⟩
      have i1 : idx (iv (e : Int)) s.size = some e := idx_lt he'
      have g1 : (bl s)[e]? = some b := by rw [List.getElem?_eq_getElem hb, hbb]
      have w : wr ((e : Int) + 1) = (e : Int) + 1 := wr_id (by omega) (by omega)
      have r := ih (e + 1) (by omega) (by omega)
      cases hd : isDig b
      · simp [e_lb1_impl_TokensOf, he', idx_str, i1, g1, hbb, he, hd, restr, dEnd]
      · simp at r
        simp [e_lb1_impl_TokensOf, he', idx_str, i1, g1, hbb, he, hd, w, restr, dEnd, r]
    · have hn : (bl s)[e]? = none := List.getElem?_eq_none (by rw [bl_len]; omega)
      simp [e_lb1_impl_TokensOf, he', restr, dEnd, hn]
theorem lp_impl_TokensOf (env : Nat → Contract) (he : env n_impl_isDigit = .pure (T1 isDig)) (hf : env n_impl_isLetter = .pure (T1 isLow)) (hg : env n_strings_IndexByte = .pure (T2 indexB)) {y1 y10 y52 : AV} (s : ByteArray) (hs : s.size ≤ 1000) : ∀ (f k : Nat) (acc : List ByteArray) (x : AV) (h : Heap), s.size ≤ k + f → k ≤ s.size → acc.length ≤ k → GotN h x acc →
    (obind (obind (loopP hm0_impl_TokensOf xm0_impl_TokensOf (lb0_impl_TokensOf env) [sv s, y1, .top, .top, x, iv (k : Nat), .top, .top, sv s, iv (s.size : Nat), y10, .top, .top, .top, .top, .top, .top, .top, .top, .top, .top, .top, .top, .top, .top, .top, .top, .top, .top, .top, .top, .top, .top, .top, .top, .top, .top, .top, .top, .top, .top, .top, .top, .top, .top, .top, .top, .top, .top, .top, .top, .top, y52] h) fun r => lk0_impl_TokensOf env r.1 r.2.1 r.2.2) fun p => release p.2 depth p.1) = some (match toks s f k acc with
      | some l => .tup [nwo l, iv 0]
      | none => .tup [nilS, iv 7]) := by
  intro f
  have fin : ∀ (k : Nat) (acc : List ByteArray) (x : AV) (h : Heap), ¬ k < s.size → GotN h x acc →
      (obind (obind (loopP hm0_impl_TokensOf xm0_impl_TokensOf (lb0_impl_TokensOf env) [sv s, y1, .top, .top, x, iv (k : Nat), .top, .top, sv s, iv (s.size : Nat), y10, .top, .top, .top, .top, .top, .top, .top, .top, .top, .top, .top, .top, .top, .top, .top, .top, .top, .top, .top, .top, .top, .top, .top, .top, .top, .top, .top, .top, .top, .top, .top, .top, .top, .top, .top, .top, .top, .top, .top, .top, .top, y52] h) fun r => lk0_impl_TokensOf env r.1 r.2.1 r.2.2) fun p => release p.2 depth p.1) = some (.tup [nwo acc, iv 0]) := by
    intro k acc x h hk g
    have := gotN_rel g (iv 0) rfl
    rw [loopP.eq_1]
    simp [e_lb0_impl_TokensOf, hk, restr, e_lk0x0_impl_TokensOf, this]
  induction f with
  | zero =>
    intro k acc x h h1 h2 h3 g
    simp only [toks]
    exact fin k acc x h (by omega) g
  | succ f ih =>
    intro k acc x h h1 h2 h3 g
    by_cases hk : k < s.size
    · obtain ⟨t1, t2⟩ := tEnd_le hk
      have hb : k < (bl s).length := by rw [bl_len]; exact hk
      obtain ⟨b, hbb⟩ : ∃ b, (bl s)[k]'hb = b := ⟨_, rfl⟩
      have i1 : idx (iv (k : Int)) s.size = some k := idx_lt hk
      have g1 : (bl s)[k]? = some b := by rw [List.getElem?_eq_getElem hb, hbb]
      have w : wr ((k : Int) + 1) = ((k + 1 : Nat) : Int) := by rw [wr_id (by omega) (by omega)]; omega
      have sl := slice_str s (Nat.le_of_lt t1) t2
      obtain ⟨x', h', ea, g'⟩ := gotN_app g (by omega) (s.extract k (tEnd s k))
      have r := ih (tEnd s k) (acc ++ [s.extract k (tEnd s k)]) x' h' (by omega) t2 (by simp; omega) g'
      have hto : tOk s k = (isDig b || isSign b) := by simp [tOk, g1]
      simp only [toks, hk, decide_true, cond_true, hto]
      rw [loopP.eq_1]
      cases hd : isDig b
      · have te : tEnd s k = k + 1 := by simp [tEnd, g1, hd]
        rw [te] at sl ea r
        have sg := sign_eq b
        unfold signSet at sg
        cases hsg : isSign b
        · rw [hsg] at sg
          simp at sg
          have sg1 : isLow b = false := sg.1
          have sg2 := sg.2
          simp [-Int.natCast_add, e_lb0_impl_TokensOf, hk, idx_str, i1, g1, hbb, he, hd, w, hf, hg, hsg, sg1, sg2, restr, e_lk0r_impl_TokensOf]
        · rw [hsg] at sg
          simp [-Int.natCast_add] at r
          cases hlow : isLow b
          · rw [hlow] at sg
            simp at sg
            have sg2 : ¬ indexB ⟨#[43, 45, 42, 47, 94, 40, 41, 82]⟩ b < 0 := by omega
            simp [-Int.natCast_add, e_lb0_impl_TokensOf, hk, idx_str, i1, g1, hbb, he, hd, w, hf, hg, hsg, hlow, sg2, sl, one_tok, ea, restr]
            simpa [-Int.natCast_add, te] using r
          · simp [-Int.natCast_add, e_lb0_impl_TokensOf, hk, idx_str, i1, g1, hbb, he, hd, w, hf, hg, hsg, hlow, sl, one_tok, ea, restr]
            simpa [-Int.natCast_add, te] using r
      · have te : tEnd s k = dEnd (bl s) s.size (k + 1) := by simp [tEnd, g1, hd]
        have li := fun {y1 y2 y3 y4 y5 y7 y8 y9 y10 y11 y12 y13 y14 y15 y16 y17 y18 y19 y20 y21 y22 y35 y36 y37 y38 y39 y40 y41 y42 y43 y44 y45 y46 y47 y48 y49 y50 y51 y52} h => @li_impl_TokensOf env he y1 y2 y3 y4 y5 y7 y8 y9 y10 y11 y12 y13 y14 y15 y16 y17 y18 y19 y20 y21 y22 y35 y36 y37 y38 y39 y40 y41 y42 y43 y44 y45 y46 y47 y48 y49 y50 y51 y52 s hs h s.size (k + 1) (by omega) (by omega)
        rw [← te] at li
        simp [-Int.natCast_add, e_lb0_impl_TokensOf, hk, idx_str, i1, g1, hbb, he, hd, w, li, e_lk1x3_impl_TokensOf, sl, one_tok, ea, restr]
        simp [-Int.natCast_add] at r
        simpa [-Int.natCast_add, te] using r
    · simp only [toks, hk, decide_false, cond_false]
      exact fin k acc x h hk g

theorem li_spec_l22Tokens (env : Nat → Contract) (he : env n_spec_l01Digit = .pure (T1 isDig)) {y1 y2 y3 y4 y5 y7 y8 y9 y10 y11 y12 y13 y14 y15 y16 y17 y30 y31 y32 y33 y34 y35 y36 y37 y38 y39 y40 y41 y42 y43 : AV} (s : ByteArray) (hs : s.size ≤ 1000) (h : Heap) : ∀ (f e : Nat), s.size ≤ e + f → e ≤ s.size →
    loopP hm1_spec_l22Tokens xm1_spec_l22Tokens (lb1_spec_l22Tokens env) [sv s, y1, y2, y3, y4, y5, iv (e : Nat), y7, y8, y9, y10, y11, y12, y13, y14, y15, y16, y17, .top, .top, .top, .top, .top, .top, .top, .top, .top, .top, .top, .top, y30, y31, y32, y33, y34, y35, y36, y37, y38, y39, y40, y41, y42, y43] h = some (.exit 2, [sv s, y1, y2, y3, y4, y5, iv (dEnd (bl s) f e : Nat), y7, y8, y9, y10, y11, y12, y13, y14, y15, y16, y17, .top, .top, .top, .top, .top, .top, .top, .top, .top, .top, .top, .top, y30, y31, y32, y33, y34, y35, y36, y37, y38, y39, y40, y41, y42, y43], h) := by
  intro f
  induction f with
  | zero =>
    intro e h1 h2
    have : ¬ e < s.size := by omega
    rw [loopP.eq_1]
    simp [e_lb1_spec_l22Tokens, this, restr, dEnd]
  | succ f ih =>
    intro e h1 h2
    rw [loopP.eq_1]
    by_cases he' : e < s.size
    · have hb : e < (bl s).length := by rw [bl_len]; exact he'
      obtain ⟨b, hbb⟩ : ∃ b, (bl s)[e]'hb = b := ⟨_, rfl⟩
      have i1 : idx (iv (e : Int)) s.size = some e := idx_lt he'
      have g1 : (bl s)[e]? = some b := by rw [List.getElem?_eq_getElem hb, hbb]
      have w : wr ((e : Int) + 1) = (e : Int) + 1 := wr_id (by omega) (by omega)
      have r := ih (e + 1) (by omega) (by omega)
      cases hd : isDig b
      · simp [e_lb1_spec_l22Tokens, he', idx_str, i1, g1, hbb, he, hd, restr, dEnd]
      · simp at r
        simp [e_lb1_spec_l22Tokens, he', idx_str, i1, g1, hbb, he, hd, w, restr, dEnd, r]
    · have hn : (bl s)[e]? = none := List.getElem?_eq_none (by rw [bl_len]; omega)
      simp [e_lb1_spec_l22Tokens, he', restr, dEnd, hn]
theorem lp_spec_l22Tokens (env : Nat → Contract) (he : env n_spec_l01Digit = .pure (T1 isDig)) (hf : env n_spec_l22Sign = .pure (T1 isSign)) {y1 y7 y43 : AV} (s : ByteArray) (hs : s.size ≤ 1000) : ∀ (f k : Nat) (acc : List ByteArray) (x : AV) (h : Heap), s.size ≤ k + f → k ≤ s.size → acc.length ≤ k → Got h x acc →
    (obind (obind (loopP hm0_spec_l22Tokens xm0_spec_l22Tokens (lb0_spec_l22Tokens env) [sv s, y1, .top, .top, x, iv (k : Nat), .top, y7, .top, .top, .top, .top, .top, .top, .top, .top, .top, .top, .top, .top, .top, .top, .top, .top, .top, .top, .top, .top, .top, .top, .top, .top, .top, .top, .top, .top, .top, .top, .top, .top, .top, .top, .top, y43] h) fun r => lk0_spec_l22Tokens env r.1 r.2.1 r.2.2) fun p => release p.2 depth p.1) = some (match toks s f k acc with
      | some l => .tup [nwl l, bv true]
      | none => .tup [nilS, bv false]) := by
  intro f
  have fin : ∀ (k : Nat) (acc : List ByteArray) (x : AV) (h : Heap), ¬ k < s.size → Got h x acc →
      (obind (obind (loopP hm0_spec_l22Tokens xm0_spec_l22Tokens (lb0_spec_l22Tokens env) [sv s, y1, .top, .top, x, iv (k : Nat), .top, y7, .top, .top, .top, .top, .top, .top, .top, .top, .top, .top, .top, .top, .top, .top, .top, .top, .top, .top, .top, .top, .top, .top, .top, .top, .top, .top, .top, .top, .top, .top, .top, .top, .top, .top, .top, y43] h) fun r => lk0_spec_l22Tokens env r.1 r.2.1 r.2.2) fun p => release p.2 depth p.1) = some (.tup [nwl acc, bv true]) := by
    intro k acc x h hk g
    have := got_rel g (bv true) rfl
    rw [loopP.eq_1]
    simp [e_lb0_spec_l22Tokens, hk, restr, e_lk0x0_spec_l22Tokens, this]
  induction f with
  | zero =>
    intro k acc x h h1 h2 h3 g
    simp only [toks]
    exact fin k acc x h (by omega) g
  | succ f ih =>
    intro k acc x h h1 h2 h3 g
    by_cases hk : k < s.size
    · obtain ⟨t1, t2⟩ := tEnd_le hk
      have hb : k < (bl s).length := by rw [bl_len]; exact hk
      obtain ⟨b, hbb⟩ : ∃ b, (bl s)[k]'hb = b := ⟨_, rfl⟩
      have i1 : idx (iv (k : Int)) s.size = some k := idx_lt hk
      have g1 : (bl s)[k]? = some b := by rw [List.getElem?_eq_getElem hb, hbb]
      have w : wr ((k : Int) + 1) = ((k + 1 : Nat) : Int) := by rw [wr_id (by omega) (by omega)]; omega
      have sl := slice_str s (Nat.le_of_lt t1) t2
      obtain ⟨x', h', ea, g'⟩ := got_app g (by omega) (s.extract k (tEnd s k))
      have r := ih (tEnd s k) (acc ++ [s.extract k (tEnd s k)]) x' h' (by omega) t2 (by simp; omega) g'
      have hto : tOk s k = (isDig b || isSign b) := by simp [tOk, g1]
      simp only [toks, hk, decide_true, cond_true, hto]
      rw [loopP.eq_1]
      cases hd : isDig b
      · have te : tEnd s k = k + 1 := by simp [tEnd, g1, hd]
        rw [te] at sl ea r
        have sg := sign_eq b
        unfold signSet at sg
        cases hsg : isSign b
        · simp [-Int.natCast_add, e_lb0_spec_l22Tokens, hk, idx_str, i1, g1, hbb, he, hd, w, hf, hsg, restr, e_lk0r_spec_l22Tokens]
        · simp [-Int.natCast_add] at r
          simp [-Int.natCast_add, e_lb0_spec_l22Tokens, hk, idx_str, i1, g1, hbb, he, hd, w, hf, hsg, sl, one_tok, ea, restr]
          simpa [-Int.natCast_add, te] using r
      · have te : tEnd s k = dEnd (bl s) s.size (k + 1) := by simp [tEnd, g1, hd]
        have li := fun {y1 y2 y3 y4 y5 y7 y8 y9 y10 y11 y12 y13 y14 y15 y16 y17 y30 y31 y32 y33 y34 y35 y36 y37 y38 y39 y40 y41 y42 y43} h => @li_spec_l22Tokens env he y1 y2 y3 y4 y5 y7 y8 y9 y10 y11 y12 y13 y14 y15 y16 y17 y30 y31 y32 y33 y34 y35 y36 y37 y38 y39 y40 y41 y42 y43 s hs h s.size (k + 1) (by omega) (by omega)
        rw [← te] at li
        simp [-Int.natCast_add, e_lb0_spec_l22Tokens, hk, idx_str, i1, g1, hbb, he, hd, w, li, e_lk1x2_spec_l22Tokens, sl, one_tok, ea, restr]
        simp [-Int.natCast_add] at r
        simpa [-Int.natCast_add, te] using r
    · simp only [toks, hk, decide_false, cond_false]
      exact fin k acc x h hk g

theorem toks_bound (s : ByteArray) : ∀ (f k : Nat) (acc l : List ByteArray), toks s f k acc = some l → k ≤ s.size → acc.length ≤ k → (acc.map Wt.wt).sum ≤ k → l.length ≤ s.size ∧ (l.map Wt.wt).sum ≤ s.size := by
  intro f
  induction f with
  | zero =>
    intro k acc l h h1 h2 h3
    simp only [toks, Option.some.injEq] at h
    subst h
    exact ⟨by omega, by omega⟩
  | succ f ih =>
    intro k acc l h h1 h2 h3
    unfold toks at h
    by_cases hk : k < s.size
    · simp only [hk, decide_true, cond_true] at h
      obtain ⟨t1, t2⟩ := tEnd_le hk
      cases ho : tOk s k
      · rw [ho] at h; cases h
      · rw [ho] at h
        have hz : (s.extract k (tEnd s k)).size ≤ tEnd s k - k := by
          rw [ByteArray.size_extract]
          omega
        refine ih _ _ l h t2 (by simp; omega) ?_
        simp only [List.map_append, List.sum_append, List.map_cons, List.map_nil, List.sum_cons, List.sum_nil, wt_str]
        omega
    · simp only [hk, decide_false, cond_false, Option.some.injEq] at h
      subst h
      exact ⟨by omega, by omega⟩
def tokI (s : ByteArray) : AV := bif decide (200 < s.size) then .tup [nilS, iv 5] else match toks s s.size 0 [] with
  | some l => .tup [nwo l, iv 0]
  | none => .tup [nilS, iv 7]
def tokS (s : ByteArray) : AV := bif decide (200 < s.size) then .tup [nilS, iv 5] else match toks s s.size 0 [] with
  | some l => .tup [nwl l, iv 0]
  | none => .tup [nilS, iv 7]

theorem ok_impl_TokensOf : PureOK Try.prog n_impl_TokensOf (G1 (fun _ : ByteArray => true) tokI) :=
  pureG1 (E3 ok_impl_isDigit ok_impl_isLetter ok_strings_IndexByte) mixed hb_impl_TokensOf fun s _ => by
  have c2 : ((200 : Int) < ((s.size : Nat) : Int)) = (200 < s.size) := propext ⟨by omega, by omega⟩
  by_cases h : 200 < s.size
  · simp [e_impl_TokensOf, c2, h, tokI]
  · have L := fun env he hf hg {y1 y10 y52} => @lp_impl_TokensOf env he hf hg y1 y10 y52 s (by omega) s.size 0 [] nilS [] (by omega) (by omega) (Nat.le_refl _) (.inl ⟨rfl, rfl⟩)
    simp [envL] at L
    simp [e_impl_TokensOf, envL, c2, h, tokI]
    exact L _ rfl rfl rfl

theorem ok_spec_l22Tokens : PureOK Try.prog n_spec_l22Tokens (G1 (fun s : ByteArray => decide (s.size ≤ 1000)) fun s => match toks s s.size 0 [] with
    | some l => .tup [nwl l, bv true]
    | none => .tup [nilS, bv false]) :=
  pureG1 (E2 ok_spec_l01Digit ok_spec_l22Sign) mixed hb_spec_l22Tokens fun s hs => by
  have hs' : s.size ≤ 1000 := of_decide_eq_true hs
  have L := fun env he hf {y1 y7 y43} => @lp_spec_l22Tokens env he hf y1 y7 y43 s hs' s.size 0 [] (.sl 0 0 0 0) [⟨1, []⟩] (by omega) (by omega) (Nat.le_refl _) ⟨0, rfl, rfl⟩
  simp [envL] at L
  simp [e_spec_l22Tokens, envL, aBuildSlice, zrows, aFillRows]
  exact L _ rfl rfl

theorem ok_spec_TokensOf : PureOK Try.prog n_spec_TokensOf (G1 (fun _ : ByteArray => true) tokS) :=
  pureG1 (E1 ok_spec_l22Tokens) mixed hb_spec_TokensOf fun s _ => by
  have c2 : ((200 : Int) < ((s.size : Nat) : Int)) = (200 < s.size) := propext ⟨by omega, by omega⟩
  by_cases h : 200 < s.size
  · simp [e_spec_TokensOf, c2, h, tokS]
  · have h' : s.size ≤ 1000 := by omega
    cases ht : toks s s.size 0 [] with
    | none => simp [e_spec_TokensOf, envL, c2, h, h', ht, tokS]
    | some l =>
      have hd := fun ok h => hand_tup_nwl l (isSc_bv true) ok h
      have gr := got_rel (h := [⟨1, l.map Row.cells⟩]) (x := .sl 0 l.length 0 l.length) (l := l) ⟨0, rfl, rfl⟩ (iv 0) rfl
      simp [e_spec_TokensOf, envL, c2, h, h', ht, hd, gr, tokS]

theorem ok_laws_FnExactTokensOf : PureOK Try.prog n_laws_FnExactTokensOf (T1 fun _ : ByteArray => true) :=
  pureT1 (EconsG (gen_of_den (E1 ok_laws_markText) mixed hb_laws_markStringS) (E4 ok_spec_TokensOf ok_impl_TokensOf ok_laws_eqStringS ok_laws_heldStringS)) mixed hb_laws_FnExactTokensOf fun s => by
  by_cases z : (1048576 : Int) < (s.size : Nat)
  · simp [e_laws_FnExactTokensOf, z]
  have fn : fit (none : Sl ByteArray) = true := rfl
  by_cases h : 200 < s.size
  · simp [e_laws_FnExactTokensOf, z, envL, tokS, tokI, h, gen0_laws_markStringS, heldS, fn]
  cases ht : toks s s.size 0 [] with
  | none => simp [e_laws_FnExactTokensOf, z, envL, tokS, tokI, h, ht, gen0_laws_markStringS, heldS, fn]
  | some l =>
    obtain ⟨b1, b2⟩ := toks_bound s s.size 0 [] l ht (by omega) (Nat.le_refl _) (Nat.le_refl _)
    have hd : ∀ ok h, hand (.tup [nwl l, iv 0]) ok h = some (.tup [.sl h.length l.length 0 l.length, iv 0], h ++ [⟨1, l.map Row.cells⟩]) := fun ok h => hand_tup_nwl l (isSc_iv 0) ok h
    have fl : fit (some l : Sl ByteArray) = true := by
      rw [fit_iff, wt_sl]
      simp only [Option.getD_some]
      omega
    cases l with
    | nil =>
      have s0 := snapD_sl (A := ByteArray) [⟨1, []⟩] (o := 0) (ep := 0) (n := 0) [] rfl rfl rfl
      simp only [List.length_nil, List.map_nil] at hd
      simp [e_laws_FnExactTokensOf, z, envL, tokS, tokI, h, ht, nwo, hd, s0, gen0_laws_markStringS, heldS, fn, fl]
    | cons a r =>
      have hn : nwo (a :: r) = nwl (a :: r) := rfl
      generalize hl : a :: r = l at *
      have hlen : l.length ≤ 1000 := by omega
      have G := gen_laws_markStringS (envL [(n_laws_markText, .pure (G1 (fun k : Int => decide (0 ≤ k) && decide (k ≤ 100000)) fun k => sv (markT k.toNat)))]) rfl l 1 l.length rfl hlen [⟨1, l.map Row.cells⟩, ⟨1, l.map Row.cells⟩] rfl
      have s0 := snapD_sl (A := ByteArray) [⟨1, l.map Row.cells⟩, ⟨1, l.map Row.cells⟩] (o := 0) (ep := l.length) (n := l.length) l rfl rfl rfl
      have s1 := snapD_sl (A := ByteArray) [⟨1, l.map Row.cells⟩, ⟨1, l.map Row.cells⟩] (o := 1) (ep := l.length) (n := l.length) l rfl rfl rfl
      have s2 := snapD_sl (A := ByteArray) [⟨1, l.map Row.cells⟩, ⟨1, (marksS 1 l.length).map Row.cells⟩] (o := 1) (ep := l.length) (n := l.length) (marksS 1 l.length) rfl (by simp) (by simp)
      have s3 := snapD_sl (A := ByteArray) [⟨1, l.map Row.cells⟩, ⟨1, (marksS 1 l.length).map Row.cells⟩, ⟨1, l.map Row.cells⟩] (o := 0) (ep := l.length) (n := l.length) l rfl rfl rfl
      have s4 := snapD_sl (A := ByteArray) [⟨1, l.map Row.cells⟩, ⟨1, (marksS 1 l.length).map Row.cells⟩, ⟨1, l.map Row.cells⟩] (o := 2) (ep := l.length) (n := l.length) l rfl rfl rfl
      have s5 := snapD_sl (A := ByteArray) [⟨1, l.map Row.cells⟩, ⟨1, (marksS 1 l.length).map Row.cells⟩, ⟨1, l.map Row.cells⟩] (o := 1) (ep := l.length) (n := l.length) (marksS 1 l.length) rfl (by simp) (by simp)
      have hm := held_marks 1 l.length
      have hp : (1 + ((l.length : Nat) : Int) < 0) = False := eq_false (by omega)
      simp only [envL] at G
      simp at G hm
      simp [e_laws_FnExactTokensOf, z, envL, tokS, tokI, h, ht, hn, hd, s0, s1, s2, s3, s4, s5, G, hm, hp, hlen, fl]
theorem law_FnExactTokensOf (a : ByteArray) (_ : Row.fine a) : T1 (fun _ : ByteArray => true) [enc a] = some (bv true) := T1_enc _ a

theorem isC_9 {cs : List AV} (h : IsC Try.prog 9 cs) : ∃ x : ByteArray, cs = Row.cells x ∧ Row.fine x := by
  obtain ⟨n, rfl, hn⟩ := IsC.strE Try.underlying9 h
  exact ⟨n, rfl, hn⟩
theorem own : ownKnob Try.prog.godebug = none := by kernel_rfl
theorem laidOut : laidOutB Try.prog = true := by kernel_rfl

set_option maxRecDepth 100000 in
theorem holds : Rows.FnExactTokensOfSaid :=
  OpenClaim.holds_of_wide 4 Try.f4 rfl rfl rfl rfl rfl rfl rfl ⟨rfl, rfl, rfl, rfl, rfl⟩ rfl rfl rfl rfl rfl (by kernel_rfl) Try.func4 (by kernel_rfl)
    (of_decide_eq_true (by kernel_rfl)) (by unfold Func.isWrapper; rw [if_neg (by decide +kernel)]; exact ⟨rfl, rfl⟩)
    (fun os started H enc _ => law_lifted (C := Try.checked) (s := Rows.fnExactTokensOfSpec) own started (by kernel_rfl) Try.func4
      (ChangeSpec.witness6 (enc := enc) (C := Try.checked) false ⟨#[], #[.string ⟨#[]⟩], []⟩ 8 (by kernel_rfl) (by kernel_rfl) (by kernel_rfl) (by kernel_rfl))
      laidOut rfl (tb := 4) rfl Try.underlying4 (ts := [9]) (by kernel_rfl)
      (fun ds h => by match ds, h with | [d0], _ => rfl)
      hb_laws_FnExactTokensOf ok_laws_FnExactTokensOf (by
    intro l h
    obtain ⟨a0, l0, rfl, g0, k0⟩ := h
    cases k0
    obtain ⟨b0, e0, w0⟩ := isC_9 (isV_one (by kernel_rfl) g0)
    obtain rfl := one_enc e0
    exact law_FnExactTokensOf b0 w0))
#print axioms holds
end Go.Proofs.Ytfladjnggkeiaaa
