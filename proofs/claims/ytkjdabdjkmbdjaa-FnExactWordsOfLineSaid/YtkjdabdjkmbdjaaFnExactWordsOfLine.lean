/-
  The law FnExactWordsOfLine holds, for all arguments: it returns true, and its arguments read behind the call as before. No condition.
-/
import Derived.Test.YtkjdabdjkmbdjaaFnExactWordsOfLineGen
import Derived.Test.YtkjdabdjkmbdjaaRows
namespace Go.Proofs.Ytkjdabdjkmbdjaa
open Go Go.Eng Go.Eng.Cod
set_option maxRecDepth 100000
set_option linter.unusedVariables false
set_option linter.unusedSimpArgs false

theorem nil_ok : EnvOK Try.prog (envL []) := E0

def within (a b c : Int) : Bool := decide (b ≤ a) && decide (a ≤ c)

theorem ok_impl_within : PureOK Try.prog n_impl_within (T3 within) := pureT3 nil_ok mixed hb_impl_within fun a b c => by
  simp [e_impl_within, within]

theorem ok_spec_l00In : PureOK Try.prog n_spec_l00In (T3 within) := pureT3 nil_ok mixed hb_spec_l00In fun a b c => by
  simp [e_spec_l00In, within]

theorem ok_spec_l00Max : PureOK Try.prog n_spec_l00Max (T2 fun a b : Int => max a b) := pureT2 nil_ok mixed hb_spec_l00Max fun a b => by
  simp [e_spec_l00Max, maxI]

def validBox (b : Box) : Bool := within b.x1 0 b.x2 && within b.y1 0 b.y2 && decide (b.x2 ≤ 4095) && decide (b.y2 ≤ 4095)

theorem ok_impl_ValidBox : PureOK Try.prog n_impl_ValidBox (T1 validBox) :=
  pureT1 (E1 ok_impl_within) mixed hb_impl_ValidBox fun b => by
  simp [e_impl_ValidBox, envL, aBox, aLoad, cut, validBox]

theorem ok_spec_l02Box : PureOK Try.prog n_spec_l02Box (T1 validBox) :=
  pureT1 (E1 ok_spec_l00In) mixed hb_spec_l02Box fun b => by
  simp [e_spec_l02Box, envL, aBox, aLoad, cut, validBox]

theorem ok_laws_toBox : PureOK Try.prog n_laws_toBox (T1 fun b : Box => b) := pureT1 nil_ok mixed hb_laws_toBox fun b => by
  simp [e_laws_toBox, aBox, aLoad, cut, aStore, splice, retL, resL, pack]

theorem ok_laws_eqBox : PureOK Try.prog n_laws_eqBox (T2 fun a b : Box => decide (a = b)) := pureT2 nil_ok mixed hb_laws_eqBox fun a b => by
  simp [e_laws_eqBox, aBox, aLoad, cut]
  obtain ⟨a1, a2, a3, a4⟩ := a
  obtain ⟨b1, b2, b3, b4⟩ := b
  simp

theorem lp_slices_IndexFunc_int64_int64 {A : Type} [Row A] (env : Nat → Contract) (g : Nat) (okc : Ref (Sl A) → Bool) (p : Ref (Sl A) → Int → Bool) (c : Ref (Sl A)) (hc : okc c = true) (he : env g = .pure (G2 (fun (_ : Int) c => okc c) fun a c => bv (p c a))) (hsn : ∀ h, snapD h (enc c) = some c) (q : Sl Int) (hq : fit q = true) : obind (loopP hm0_slices_IndexFunc_int64_int64 xm0_slices_IndexFunc_int64_int64 (lb0_slices_IndexFunc_int64_int64 env) [Sl.enc q, .fn g [enc c], und, und, .top, .top, Sl.enc q, iv ((q.getD []).length : Nat), iv 0, .top, .top, .top, .top, .top, .top, .top, .top, .top, .top] []) (fun r => lk0_slices_IndexFunc_int64_int64 env r.1 r.2.1 r.2.2) = some (iv (findI (p c) (q.getD []) 0), []) := by
  have T := lookT q (w := 1) rfl
  simp at hsn
  exact loop_over (q.getD []) (fit_max hq) (hmk := hm0_slices_IndexFunc_int64_int64) (xm := xm0_slices_IndexFunc_int64_int64) (body := lb0_slices_IndexFunc_int64_int64 env) (K := fun r => lk0_slices_IndexFunc_int64_int64 env r.1 r.2.1 r.2.2) (σ := Nat) (fun i _ => [Sl.enc q, .fn g [enc c], und, und, .top, .top, Sl.enc q, iv ((q.getD []).length : Nat), iv (i : Int), .top, .top, .top, .top, .top, .top, .top, .top, .top, .top]) (fun _ => [])
    (fun i suf => i + suf.length = (q.getD []).length) (fun i suf => some (iv (findI (p c) suf i), []))
    (fun pre x suf i hl hi S => by
      have hp : pre.length = i := by
        have := congrArg List.length hl
        simp at this hi
        omega
      subst hp
      cases hx : (p c) x
      · right
        refine ⟨pre.length + 1, by simpa [Nat.add_assoc, Nat.add_comm 1] using hi, ?_, by simp [findI, hx]⟩
        rw [loopP.eq_1]
        simp [e_lb0_slices_IndexFunc_int64_int64, T.len, T.idx, T.load, S.idx, S.lt, S.elt, cut, S.wr, he, hsn, hc, hx, restr]
      · left
        rw [loopP.eq_1]
        simp [e_lb0_slices_IndexFunc_int64_int64, T.len, T.idx, T.load, S.idx, S.lt, S.elt, cut, S.wr, he, hsn, hc, hx, restr, e_lk0r_slices_IndexFunc_int64_int64, findI])
    (fun i hi => by
      have hp : i = (q.getD []).length := by simpa using hi
      subst hp
      rw [loopP.eq_1]
      simp [e_lb0_slices_IndexFunc_int64_int64, T.len, restr, e_lk0x0_slices_IndexFunc_int64_int64, findI]) 0 (by simp)
theorem ok_slices_IndexFunc_int64_int64 {A : Type} [Row A] {g : Nat} {okc : Ref (Sl A) → Bool} {p : Ref (Sl A) → Int → Bool} (hsn : ∀ (c : Ref (Sl A)) h, snapD h (enc c) = some c) (hg : PureOK Try.prog g (G2 (fun (_ : Int) c => okc c) fun a c => bv (p c a))) : PureOK Try.prog n_slices_IndexFunc_int64_int64 (G2 (fun (q : Sl Int) (c : Clo g (Ref (Sl A))) => fit q && okc c.val) fun q c => iv (findI (p c.val) (q.getD []) 0)) :=
  pureG2 (E1 hg) mixed hb_slices_IndexFunc_int64_int64 fun q ⟨c⟩ hq => by
  simp at hq
  have T := lookT q (w := 1) rfl
  have L := fun env he => lp_slices_IndexFunc_int64_int64 env g okc p c hq.2 he (hsn c) q hq.1
  simp [e_slices_IndexFunc_int64_int64, T.len, envL] at L ⊢
  simp [L]

theorem snap_refSl {A : Type} [Row A] (c : Ref (Sl A)) (h : Heap) : snapD h (enc c) = some c := Cod.de c
theorem ok_slices_ContainsFunc_int64_int64 {A : Type} [Row A] {g : Nat} {okc : Ref (Sl A) → Bool} {p : Ref (Sl A) → Int → Bool} (hg : PureOK Try.prog g (G2 (fun (_ : Int) c => okc c) fun a c => bv (p c a))) : PureOK Try.prog n_slices_ContainsFunc_int64_int64 (G2 (fun (q : Sl Int) (c : Clo g (Ref (Sl A))) => fit q && okc c.val) fun q c => bv ((q.getD []).any (p c.val))) :=
  pureG2 (E1 (ok_slices_IndexFunc_int64_int64 snap_refSl hg)) mixed hb_slices_ContainsFunc_int64_int64 fun q c hq => by
  have hc : ∀ h, snapD h (.fn g [enc c.val]) = some c := fun h => Cod.de c
  simp at hc hq
  simp [e_slices_ContainsFunc_int64_int64, envL, hc, hq, findI_any]

theorem ok_impl_isPage_1 : PureOK Try.prog n_impl_isPage_1 (T1 fun b : Box => !validBox b) := pureT1 (E1 ok_impl_ValidBox) mixed hb_impl_isPage_1 fun b => by
  simp [e_impl_isPage_1, envL, aBox, aLoad, cut]

def isPage (l : List Box) : Bool := decide (l.length ≤ 60) && l.all validBox
theorem not_any_not {A : Type} (p : A → Bool) (l : List A) : (!l.any fun a => !p a) = l.all p := by
  induction l with
  | nil => rfl
  | cons a l ih => simp [← ih]

def isIdx (n : Int) (k : Int) : Bool := within k 0 (n - 1)
theorem ok_impl_areIndices_1 : PureOK Try.prog n_impl_areIndices_1 (G2 (fun (_ : Int) (c : Ref (Sl Box)) => fit c.val) fun k c => bv (!isIdx ((c.val.getD []).length : Nat) k)) :=
  pureG2 (E1 ok_impl_within) mixed hb_impl_areIndices_1 fun k ⟨q⟩ hq => by
  have T := lookT q (w := 4) rfl
  have hl := fit_len (q := q) hq
  have hw : wr (((q.getD []).length : Nat) - 1 : Int) = ((q.getD []).length : Nat) - 1 := wr_id (by omega) (by omega)
  simp [e_impl_areIndices_1, envL, aLoad, cut, T.len, hw, isIdx]

theorem ok_impl_areIndices : PureOK Try.prog n_impl_areIndices (G2 (fun (q : Sl Box) (p : Sl Int) => fit q && fit p) fun q p => bv ((p.getD []).all (isIdx ((q.getD []).length : Nat)))) :=
  pureG2 (E1 (ok_slices_ContainsFunc_int64_int64 ok_impl_areIndices_1)) mixed hb_impl_areIndices fun q p h => by
  simp at h
  have hc : snapD [⟨1, [[Sl.enc q]]⟩] (.fn n_impl_areIndices_1 [.ptr 0 1 0 0]) = some (⟨⟨q⟩⟩ : Clo n_impl_areIndices_1 (Ref (Sl Box))) := snapD_clo (⟨q⟩ : Ref (Sl Box)) (snap_ref7 (A := Sl Box) (row := [Sl.enc q]) q rfl (by simp [omap]))
  have hn := not_any_not (isIdx ((q.getD []).length : Nat)) (p.getD [])
  simp at hc
  simp [e_impl_areIndices, envL, aBox, hc, h] at hn ⊢
  rw [hn, Bool.not_not]

theorem isIdx_idx {n : Nat} {k : Int} (h : isIdx n k = true) : idx (iv k) n = some k.toNat ∧ k.toNat < n := by
  simp [isIdx, within] at h
  obtain ⟨m, rfl⟩ := Int.eq_ofNat_of_zero_le h.1
  simp only [Int.toNat_natCast]
  exact ⟨idx_lt (by omega), by omega⟩
theorem idx_int {n : Nat} {k : Int} (h : isIdx n k = true) : ∃ m : Nat, k = m ∧ m < n := by
  simp [isIdx, within] at h
  exact ⟨k.toNat, by omega, by omega⟩

def orI : List Int → Int
  | [] => 0
  | a :: l => bif decide (a = 0) then orI l else a

theorem lp_cmp_Or_int (env : Nat → Contract) {y0 y1 y4 y17 : AV} (q : Sl Int) (hq : fit q = true) :
    (obind (loopP hm0_cmp_Or_int xm0_cmp_Or_int (lb0_cmp_Or_int env) [y0, y1, .top, iv 0, y4, .top, Sl.enc q, iv ((q.getD []).length : Nat), iv 0, .top, .top, .top, .top, .top, .top, .top, .top, y17] []) fun r => lk0_cmp_Or_int env r.1 r.2.1 r.2.2) = some (iv (orI (q.getD [])), []) := by
  have T := lookT q (w := 1) rfl
  have L := loop_over (q.getD []) (fit_max hq) (hmk := hm0_cmp_Or_int) (xm := xm0_cmp_Or_int) (body := lb0_cmp_Or_int env) (K := fun r => lk0_cmp_Or_int env r.1 r.2.1 r.2.2) (σ := Unit) (fun _ (i : Nat) => [y0, y1, .top, iv 0, y4, .top, Sl.enc q, iv ((q.getD []).length : Nat), iv (i : Nat), .top, .top, .top, .top, .top, .top, .top, .top, y17]) (fun _ => [])
    (fun _ _ => True) (fun _ suf => some (iv (orI suf), []))
    (fun pre k suf u hl hi S => by
      by_cases hk : k = 0
      · right
        refine ⟨(), trivial, ?_, by simp [orI, hk]⟩
        rw [loopP.eq_1]
        simp [e_lb0_cmp_Or_int, T.len, T.idx, T.load, S.idx, S.lt, S.elt, cut, S.wr, hk, restr]
      · left
        rw [loopP.eq_1]
        simp [e_lb0_cmp_Or_int, T.len, T.idx, T.load, S.idx, S.lt, S.elt, cut, S.wr, hk, restr, e_lk0r_cmp_Or_int, orI])
    (fun u hi => by
      rw [loopP.eq_1]
      simp [e_lb0_cmp_Or_int, T.len, restr, e_lk0x0_cmp_Or_int, orI]) () trivial
  simpa using L
theorem ok_cmp_Or_int : PureOK Try.prog n_cmp_Or_int (G1 (fun q : Sl Int => fit q) fun q => iv (orI (q.getD []))) :=
  pureG1 E0 mixed hb_cmp_Or_int fun q hq => by
  have T := lookT q (w := 1) rfl
  have L := fun env {y0 y1 y4 y17} => @lp_cmp_Or_int env y0 y1 y4 y17 q hq
  simp [e_cmp_Or_int, T.len, L]

/-- The digits of a number, ahead of a text. -/
def digT (k : Nat) (out : ByteArray) : ByteArray := if _h : k = 0 then out else digT (k / 10) (⟨#[(48 + k % 10).toUInt8]⟩ ++ out)
termination_by k
decreasing_by omega
def markT (k : Nat) : ByteArray := bif decide (k = 0) then ⟨#[109, 48]⟩ else ⟨#[109]⟩ ++ digT k ⟨#[]⟩
theorem size_one (b : UInt8) (out : ByteArray) : ((⟨#[b]⟩ : ByteArray) ++ out).size = 1 + out.size := by
  rw [ByteArray.size_append]
  rfl
theorem add_str (a b : ByteArray) (h : a.size + b.size ≤ 4294967296) : aBin .add (sv a) (sv b) = some (sv (a ++ b)) := by
  have h0 : aBin .add (sv a) (sv b) = (match (if ((a.size + b.size : Nat) : Int) ≤ 9223372036854775807 then some (Value.string (a ++ b)) else none) with | some v => some (AV.sc v) | none => none) := rfl
  rw [h0, if_pos (by omega)]
  rfl
theorem digT_size : ∀ (k : Nat) (out : ByteArray), (digT k out).size ≤ k + out.size := by
  intro k out
  induction k, out using digT.induct with
  | case1 out => rw [digT]; simp
  | case2 k out h ih =>
    rw [digT, dif_neg h]
    rw [size_one] at ih
    omega

/-- The row that a mark leaves: numbers that go up by one, or their texts. -/
def mrow : List Bool → Nat → List AV
  | [], _ => []
  | b :: ks, k => (bif b then sv (markT k) else iv (k : Nat)) :: mrow ks (k + 1)
def mrows (ks : List Bool) : Nat → Nat → List (List AV)
  | _, 0 => []
  | k, m + 1 => mrow ks k :: mrows ks (k + ks.length) m
theorem set_same {h : Heap} {o : Nat} {x : AObj} (ho : h[o]? = some x) : h.set o x = h := by
  obtain ⟨hlt, e⟩ := List.getElem?_eq_some_iff.1 ho
  rw [← e]
  exact List.set_getElem_self hlt
theorem mark_addr {h : Heap} {o n w i : Nat} {P S : List (List AV)} {r : List AV} (ho : h[o]? = some ⟨w, P ++ r :: S⟩) (hi : i = P.length) (hn : P.length + (S.length + 1) = n) : aIndexAddr w (.sl o n 0 n) (iv (i : Nat)) h = some (.ptr o n i 0) := by
  have i1 : idx (iv (i : Int)) n = some i := idx_lt (by omega)
  have hl : (P ++ r :: S).length = n := by simp; omega
  simp only [aIndexAddr, ho, hl, i1, and_self, if_true, Nat.zero_add]
theorem mark_store {h : Heap} {o n w i j : Nat} {P S : List (List AV)} {r : List AV} {v : AV} (ho : h[o]? = some ⟨w, P ++ r :: S⟩) (hi : i = P.length) (hn : P.length + (S.length + 1) = n) (hv : v.cells = [v]) (hf : v.flat = true) (hj : j < r.length) : aStore 1 (.ptr o n i j) v h = some (h.set o ⟨w, P ++ r.set j v :: S⟩) := by
  have hl : (P ++ r :: S).length = n := by simp; omega
  have hg : (P ++ r :: S)[i]? = some r := by simp [hi]
  simp only [aStore, ho, hl, if_true, hg]
  rw [if_pos ⟨by rw [hv]; rfl, by omega, by rw [hv]; simp [hf]⟩]
  congr 3
  rw [hi, hv]
  have hs : splice r j [v] = r.set j v := by
    unfold splice
    simp only [List.length_cons, List.length_nil, Nat.zero_add]
    exact (List.set_eq_take_append_cons_drop (l := r) (i := j) (a := v)).symm ▸ (by simp [hj])
  rw [hs]
  simp

theorem lp_laws_markInt64S (env : Nat → Contract) {y2 y3 y4 y18 : AV} (o n : Nat) : ∀ (S P : List (List AV)) (k i : Nat) (h : Heap), i = P.length → P.length + S.length = n → n ≤ 4294967296 → (∀ r ∈ S, r.length = 1) → k + 1 * S.length ≤ 1000000000 → h[o]? = some ⟨1, P ++ S⟩ →
    (obind (loopP hm0_laws_markInt64S xm0_laws_markInt64S (lb0_laws_markInt64S env) [.sl o n 0 n, iv (k : Nat), y2, y3, y4, iv (i : Nat), .top, .top, .top, .top, .top, .top, .top, .top, .top, .top, .top, .top, y18] h) fun r => lk0_laws_markInt64S env r.1 r.2.1 r.2.2) = some (iv ((k + 1 * S.length : Nat) : Int), h.set o ⟨1, P ++ mrows [false] k S.length⟩) := by
  intro S
  induction S with
  | nil =>
    intro P k i h hi hl hn hr hk ho
    have : ¬ i < n := by simp at hl; omega
    have hs := set_same ho
    simp at hs
    rw [loopP.eq_1]
    simp [e_lb0_laws_markInt64S, restr, e_lk0x0_laws_markInt64S, this, mrows, hs]
  | cons r S ih =>
    intro P k i h hi hl hn hr hk ho
    have hl' : P.length + (S.length + 1) = n := by simpa using hl
    simp only [List.length_cons] at hk
    have hlt : i < n := by omega
    have hrl := hr r (by simp)
    obtain ⟨c0, rfl⟩ : ∃ c0, r = [c0] := by
      match r, hrl with
      | [c0], _ => exact ⟨c0, rfl⟩
    have olt := (List.getElem?_eq_some_iff.1 ho).1
    have a0 := mark_addr (w := 1) (r := [c0]) ho hi hl'
    have s0 := mark_store (j := 0) (v := iv (k : Int)) ho hi hl' rfl rfl (by simp)
    simp only [List.set_cons_zero, List.set_cons_succ, List.set_set] at s0
    have g0 : (h.set o ⟨1, P ++ [(iv (k : Int))] :: S⟩)[o]? = some ⟨1, P ++ [(iv (k : Int))] :: S⟩ := by simp [olt]
    have w0 : wr ((k : Int) + 1) = ((k + 1 : Nat) : Int) := by rw [wr_id (by omega) (by omega)]; omega
    have wi : wr ((i : Int) + 1) = ((i + 1 : Nat) : Int) := by rw [wr_id (by omega) (by omega)]; omega
    have r := ih (P ++ [[(iv (k : Int))]]) (k + 1) (i + 1) (h.set o ⟨1, P ++ [(iv (k : Int))] :: S⟩) (by simp [hi]) (by simp; omega) hn (fun r hr' => hr r (by simp [hr'])) (by omega) (by simp [olt])
    have hlz : ((i : Int) < (n : Nat)) := by omega
    rw [loopP.eq_1]
    simp only [e_lb0_laws_markInt64S, aLenK_sl, obind_sm, aBin_lss, condB_bv, hlz, decide_true, cond_true, aFieldAddr_ptr, Nat.zero_add, a0, s0, w0, wi, aBin_add, restr, cond_false]
    rw [r]
    simp only [mrows, mrow, List.length_cons, List.set_set, List.append_assoc, List.singleton_append, cond_true, cond_false, Nat.add_assoc]
    congr 3
    · omega
theorem gen_laws_markInt64S (env : Nat → Contract) (R : List (List AV)) (o n : Nat) (hn : R.length = n) (hl : n ≤ 4294967296) (hr : ∀ r ∈ R, r.length = 1) (k : Nat) (hk : k + 1 * n ≤ 1000000000) (h : Heap) (ho : h[o]? = some ⟨1, R⟩) :
    denFn Try.prog env n_laws_markInt64S [.sl o n 0 n, iv (k : Nat)] h = some (iv ((k + 1 * n : Nat) : Int), h.set o ⟨1, mrows [false] k n⟩) := by
  have L := fun {y2 y3 y4 y18} => @lp_laws_markInt64S env y2 y3 y4 y18 o n R [] k 0 h rfl (by simpa using hn) hl hr (by rw [hn]; exact hk) (by simpa using ho)
  rw [hn] at L
  simp [-Int.natCast_add] at L
  simp [-Int.natCast_add, e_laws_markInt64S, L]

theorem lp_laws_markBoxS (env : Nat → Contract) {y2 y3 y4 y40 : AV} (o n : Nat) : ∀ (S P : List (List AV)) (k i : Nat) (h : Heap), i = P.length → P.length + S.length = n → n ≤ 4294967296 → (∀ r ∈ S, r.length = 4) → k + 4 * S.length ≤ 1000000000 → h[o]? = some ⟨4, P ++ S⟩ →
    (obind (loopP hm0_laws_markBoxS xm0_laws_markBoxS (lb0_laws_markBoxS env) [.sl o n 0 n, iv (k : Nat), y2, y3, y4, iv (i : Nat), .top, .top, .top, .top, .top, .top, .top, .top, .top, .top, .top, .top, .top, .top, .top, .top, .top, .top, .top, .top, .top, .top, .top, .top, .top, .top, .top, .top, .top, .top, .top, .top, .top, .top, y40] h) fun r => lk0_laws_markBoxS env r.1 r.2.1 r.2.2) = some (iv ((k + 4 * S.length : Nat) : Int), h.set o ⟨4, P ++ mrows [false, false, false, false] k S.length⟩) := by
  intro S
  induction S with
  | nil =>
    intro P k i h hi hl hn hr hk ho
    have : ¬ i < n := by simp at hl; omega
    have hs := set_same ho
    simp at hs
    rw [loopP.eq_1]
    simp [e_lb0_laws_markBoxS, restr, e_lk0x0_laws_markBoxS, this, mrows, hs]
  | cons r S ih =>
    intro P k i h hi hl hn hr hk ho
    have hl' : P.length + (S.length + 1) = n := by simpa using hl
    simp only [List.length_cons] at hk
    have hlt : i < n := by omega
    have hrl := hr r (by simp)
    obtain ⟨c0, c1, c2, c3, rfl⟩ : ∃ c0 c1 c2 c3, r = [c0, c1, c2, c3] := by
      match r, hrl with
      | [c0, c1, c2, c3], _ => exact ⟨c0, c1, c2, c3, rfl⟩
    have olt := (List.getElem?_eq_some_iff.1 ho).1
    have a0 := mark_addr (w := 4) (r := [c0, c1, c2, c3]) ho hi hl'
    have s0 := mark_store (j := 0) (v := iv (k : Int)) ho hi hl' rfl rfl (by simp)
    simp only [List.set_cons_zero, List.set_cons_succ, List.set_set] at s0
    have g0 : (h.set o ⟨4, P ++ [(iv (k : Int)), c1, c2, c3] :: S⟩)[o]? = some ⟨4, P ++ [(iv (k : Int)), c1, c2, c3] :: S⟩ := by simp [olt]
    have w0 : wr ((k : Int) + 1) = ((k + 1 : Nat) : Int) := by rw [wr_id (by omega) (by omega)]; omega
    have a1 := mark_addr (w := 4) (r := [(iv (k : Int)), c1, c2, c3]) g0 hi hl'
    have s1 := mark_store (j := 1) (v := iv ((k + 1 : Nat) : Int)) g0 hi hl' rfl rfl (by simp)
    simp only [List.set_cons_zero, List.set_cons_succ, List.set_set] at s1
    have g1 : (h.set o ⟨4, P ++ [(iv (k : Int)), (iv ((k + 1 : Nat) : Int)), c2, c3] :: S⟩)[o]? = some ⟨4, P ++ [(iv (k : Int)), (iv ((k + 1 : Nat) : Int)), c2, c3] :: S⟩ := by simp [olt]
    have w1 : wr (((k + 1 : Nat) : Int) + 1) = ((k + 2 : Nat) : Int) := by rw [wr_id (by omega) (by omega)]; omega
    have a2 := mark_addr (w := 4) (r := [(iv (k : Int)), (iv ((k + 1 : Nat) : Int)), c2, c3]) g1 hi hl'
    have s2 := mark_store (j := 2) (v := iv ((k + 2 : Nat) : Int)) g1 hi hl' rfl rfl (by simp)
    simp only [List.set_cons_zero, List.set_cons_succ, List.set_set] at s2
    have g2 : (h.set o ⟨4, P ++ [(iv (k : Int)), (iv ((k + 1 : Nat) : Int)), (iv ((k + 2 : Nat) : Int)), c3] :: S⟩)[o]? = some ⟨4, P ++ [(iv (k : Int)), (iv ((k + 1 : Nat) : Int)), (iv ((k + 2 : Nat) : Int)), c3] :: S⟩ := by simp [olt]
    have w2 : wr (((k + 2 : Nat) : Int) + 1) = ((k + 3 : Nat) : Int) := by rw [wr_id (by omega) (by omega)]; omega
    have a3 := mark_addr (w := 4) (r := [(iv (k : Int)), (iv ((k + 1 : Nat) : Int)), (iv ((k + 2 : Nat) : Int)), c3]) g2 hi hl'
    have s3 := mark_store (j := 3) (v := iv ((k + 3 : Nat) : Int)) g2 hi hl' rfl rfl (by simp)
    simp only [List.set_cons_zero, List.set_cons_succ, List.set_set] at s3
    have g3 : (h.set o ⟨4, P ++ [(iv (k : Int)), (iv ((k + 1 : Nat) : Int)), (iv ((k + 2 : Nat) : Int)), (iv ((k + 3 : Nat) : Int))] :: S⟩)[o]? = some ⟨4, P ++ [(iv (k : Int)), (iv ((k + 1 : Nat) : Int)), (iv ((k + 2 : Nat) : Int)), (iv ((k + 3 : Nat) : Int))] :: S⟩ := by simp [olt]
    have w3 : wr (((k + 3 : Nat) : Int) + 1) = ((k + 4 : Nat) : Int) := by rw [wr_id (by omega) (by omega)]; omega
    have wi : wr ((i : Int) + 1) = ((i + 1 : Nat) : Int) := by rw [wr_id (by omega) (by omega)]; omega
    have r := ih (P ++ [[(iv (k : Int)), (iv ((k + 1 : Nat) : Int)), (iv ((k + 2 : Nat) : Int)), (iv ((k + 3 : Nat) : Int))]]) (k + 4) (i + 1) (h.set o ⟨4, P ++ [(iv (k : Int)), (iv ((k + 1 : Nat) : Int)), (iv ((k + 2 : Nat) : Int)), (iv ((k + 3 : Nat) : Int))] :: S⟩) (by simp [hi]) (by simp; omega) hn (fun r hr' => hr r (by simp [hr'])) (by omega) (by simp [olt])
    have hlz : ((i : Int) < (n : Nat)) := by omega
    rw [loopP.eq_1]
    simp only [e_lb0_laws_markBoxS, aLenK_sl, obind_sm, aBin_lss, condB_bv, hlz, decide_true, cond_true, aFieldAddr_ptr, Nat.zero_add, a0, s0, w0, a1, s1, w1, a2, s2, w2, a3, s3, w3, wi, aBin_add, restr, cond_false]
    rw [r]
    simp only [mrows, mrow, List.length_cons, List.set_set, List.append_assoc, List.singleton_append, cond_true, cond_false, Nat.add_assoc]
    congr 3
    · omega
theorem gen_laws_markBoxS (env : Nat → Contract) (R : List (List AV)) (o n : Nat) (hn : R.length = n) (hl : n ≤ 4294967296) (hr : ∀ r ∈ R, r.length = 4) (k : Nat) (hk : k + 4 * n ≤ 1000000000) (h : Heap) (ho : h[o]? = some ⟨4, R⟩) :
    denFn Try.prog env n_laws_markBoxS [.sl o n 0 n, iv (k : Nat)] h = some (iv ((k + 4 * n : Nat) : Int), h.set o ⟨4, mrows [false, false, false, false] k n⟩) := by
  have L := fun {y2 y3 y4 y40} => @lp_laws_markBoxS env y2 y3 y4 y40 o n R [] k 0 h rfl (by simpa using hn) hl hr (by rw [hn]; exact hk) (by simpa using ho)
  rw [hn] at L
  simp [-Int.natCast_add] at L
  simp [-Int.natCast_add, e_laws_markBoxS, L]

def cmpI (a b : Int) : Int := bif decide (a < b) then -1 else bif decide (b < a) then 1 else 0
theorem ok_cmp_isNaN_int64 : PureOK Try.prog n_cmp_isNaN_int64 (T1 fun _ : Int => false) := pureT1 E0 mixed hb_cmp_isNaN_int64 fun a => by
  simp [e_cmp_isNaN_int64]

theorem ok_cmp_Compare_int64 : PureOK Try.prog n_cmp_Compare_int64 (T2 cmpI) := pureT2 (E1 ok_cmp_isNaN_int64) mixed hb_cmp_Compare_int64 fun a b => by
  by_cases w1 : a < b <;> by_cases w2 : b < a <;> simp [e_cmp_Compare_int64, envL, cmpI, w1, w2]

/-- How box `i` stands to box `j` in a line: below 0 means ahead. -/
def leftI (l : List Box) (i j : Int) : Int := match l[i.toNat]?, l[j.toNat]? with
  | some a, some b => orI [cmpI a.x1 b.x1, cmpI a.x2 b.x2, cmpI i j]
  | _, _ => 0
def leftB (l : List Box) (i j : Int) : Bool := match l[i.toNat]?, l[j.toNat]? with
  | some a, some b => bif decide (a.x1 = b.x1) then (bif decide (a.x2 = b.x2) then decide (i < j) else decide (a.x2 < b.x2)) else decide (a.x1 < b.x1)
  | _, _ => false
theorem leftI_B (l : List Box) (i j : Int) : decide (0 ≤ leftI l i j) = !leftB l i j := by
  unfold leftI leftB
  split
  · rename_i a b _ _
    simp only [orI, cmpI]
    by_cases h1 : a.x1 < b.x1
    · have h2 : ¬ a.x1 = b.x1 := by omega
      simp [h1, h2]
    · by_cases h2 : b.x1 < a.x1
      · have h3 : ¬ a.x1 = b.x1 := by omega
        simp [h1, h2, h3]
      · have h3 : a.x1 = b.x1 := by omega
        by_cases g1 : a.x2 < b.x2
        · have g2 : ¬ a.x2 = b.x2 := by omega
          simp [h3, g1, g2]
        · by_cases g2 : b.x2 < a.x2
          · have g3 : ¬ a.x2 = b.x2 := by omega
            simp [h3, g1, g2, g3]
          · have g3 : a.x2 = b.x2 := by omega
            by_cases k1 : i < j
            · simp [h3, g3, k1]
            · by_cases k2 : j < i <;> simp [h3, g3, k1, k2]
  · simp

theorem ok_impl_leftToRight_1 : PureOK Try.prog n_impl_leftToRight_1 (G3 (fun (i j : Int) (c : Ref (Sl Box)) => fit c.val && isIdx ((c.val.getD []).length : Nat) i && isIdx ((c.val.getD []).length : Nat) j) fun i j c => iv (leftI (c.val.getD []) i j)) :=
  pureG3 (E2 ok_cmp_Compare_int64 ok_cmp_Or_int) mixed hb_impl_leftToRight_1 fun i j ⟨q⟩ hq => by
  simp at hq
  have T := lookT q (w := 4) rfl
  obtain ⟨i1, i2⟩ := isIdx_idx hq.1.2
  obtain ⟨j1, j2⟩ := isIdx_idx hq.2
  obtain ⟨a, ha⟩ : ∃ a, (q.getD [])[i.toNat]'i2 = a := ⟨_, rfl⟩
  obtain ⟨b, hb⟩ : ∃ b, (q.getD [])[j.toNat]'j2 = b := ⟨_, rfl⟩
  have e1 : leftI (q.getD []) i j = orI [cmpI a.x1 b.x1, cmpI a.x2 b.x2, cmpI i j] := by simp [leftI, i2, j2, ha, hb]
  have s0 := fun x y z : Int => snapD_sl (A := Int) [⟨1, [[iv x], [iv y], [iv z]]⟩] (o := 0) (ep := 3) (n := 3) [x, y, z] rfl rfl rfl
  have fl : ∀ x y z : Int, fit (some [x, y, z] : Sl Int) = true := fun _ _ _ => rfl
  have bs : ∀ x y z : Int, aBuildSlice [iv 0] 3 [(0, iv x), (1, iv y), (2, iv z)] [] = some (.sl 0 3 0 3, [⟨1, [[iv x], [iv y], [iv z]]⟩]) := fun _ _ _ => rfl
  have l0 : ∀ h, aLoad false 1 (.fptr 1 [[Sl.enc q]] 0 0) h = some (Sl.enc q) := fun _ => rfl
  simp [e_impl_leftToRight_1, envL, l0, cut, T.idx, T.fld, T.load, i1, i2, j1, j2, ha, hb, bs, s0, fl, e1]

theorem ok_impl_leftToRight : PureOK Try.prog n_impl_leftToRight (R1 fun q : Sl Box => some (.fn n_impl_leftToRight_1 [.np 1 [[Sl.enc q]] 0 0])) := pureR1 E0 mixed hb_impl_leftToRight fun q r h => by
  cases h
  apply pureG
  rw [e_impl_leftToRight]
  cases q <;> rfl
theorem hand_ltr (q : Sl Box) (ok : Bool) (h : Heap) (hok : ok = true) : hand (.fn n_impl_leftToRight_1 [.np 1 [[Sl.enc q]] 0 0]) ok h = some (.fn n_impl_leftToRight_1 [.ptr h.length 1 0 0], h ++ [⟨1, [[Sl.enc q]]⟩]) := by
  subst hok
  unfold hand
  rw [Bool.or_true, if_pos rfl]
  cases q <;> rfl

def ordB (lt : Int → Int → Bool) : List Int → Bool
  | a :: b :: r => lt a b && ordB lt (b :: r)
  | _ => true
theorem idx_at {n i : Nat} (h : i < n) (hm : n ≤ 4294967296) : idx (iv (i : Int)) n = some i ∧ wr ((i : Int) + 1) = ((i + 1 : Nat) : Int) := ⟨idx_lt h, by rw [wr_id (by omega) (by omega)]; omega⟩

theorem lp_impl_areItems (env : Nat → Contract) (he : env n_impl_leftToRight_1 = .pure (G3 (fun (i j : Int) (c : Ref (Sl Box)) => fit c.val && isIdx ((c.val.getD []).length : Nat) i && isIdx ((c.val.getD []).length : Nat) j) fun i j c => iv (leftI (c.val.getD []) i j))) {y2 y3 y7 y8 y9 y10 y11 y12 : AV} (q : Sl Box) (p : Sl Int) (hq : fit q = true) (hp : fit p = true) (hi : (p.getD []).all (isIdx ((q.getD []).length : Nat)) = true) : ∀ (suf pre : List Int) (a : Int), p.getD [] = pre ++ a :: suf →
    (obind (loopP hm0_impl_areItems xm0_impl_areItems (lb0_impl_areItems env) [Sl.enc q, Sl.enc p, y2, y3, .top, .fn n_impl_leftToRight_1 [.ptr 0 1 0 0], iv ((pre.length + 1 : Nat) : Int), y7, y8, y9, y10, y11, y12, .top, .top, .top, .top, .top, .top, .top, .top, .top, .top, .top, .top, .top, .top, .top, .top, .top, .top] [⟨1, [[Sl.enc q]]⟩]) fun r => lk0_impl_areItems env r.1 r.2.1 r.2.2) = some (bv (ordB (leftB (q.getD [])) (a :: suf)), [⟨1, [[Sl.enc q]]⟩]) := by
  have U := lookT p (w := 1) rfl
  have hlen := fit_len hp
  have h1 : ∀ k ∈ p.getD [], isIdx ((q.getD []).length : Nat) k = true := List.all_eq_true.1 hi
  have hc : snapD [⟨1, [[Sl.enc q]]⟩] (.ptr 0 1 0 0) = some (⟨q⟩ : Ref (Sl Box)) := snapD_ref (A := Sl Box) (row := [Sl.enc q]) q rfl (by simp [omap])
  intro suf
  induction suf with
  | nil =>
    intro pre a hl
    have hn : (p.getD []).length = pre.length + 1 := by rw [hl]; simp
    rw [loopP.eq_1]
    simp [e_lb0_impl_areItems, U.len, hn, restr, e_lk0x0_impl_areItems, ordB]
  | cons b suf ih =>
    intro pre a hl
    have hn : (p.getD []).length = pre.length + 1 + (suf.length + 1) := by rw [hl]; simp; omega
    have g0 : (p.getD [])[pre.length]? = some a := by rw [hl]; simp
    have g1 : (p.getD [])[pre.length + 1]? = some b := by rw [hl, List.getElem?_append_right (by omega)]; simp
    have d0 : ∀ h : pre.length < (p.getD []).length, (p.getD [])[pre.length] = a := fun h => by simpa [h] using g0
    have d1 : ∀ h : pre.length + 1 < (p.getD []).length, (p.getD [])[pre.length + 1] = b := fun h => by simpa [h] using g1
    have i0 : idx (iv (pre.length : Int)) (p.getD []).length = some pre.length := idx_lt (by omega)
    have i1 : idx (iv ((pre.length + 1 : Nat) : Int)) (p.getD []).length = some (pre.length + 1) := idx_lt (by omega)
    have w0 : wr (((pre.length + 1 : Nat) : Int) - 1) = (pre.length : Int) := by rw [wr_id (by omega) (by omega)]; omega
    have w1 : wr (((pre.length + 1 : Nat) : Int) + 1) = ((pre.length + 1 + 1 : Nat) : Int) := by rw [wr_id (by omega) (by omega)]; omega
    have lt : (((pre.length + 1 : Nat) : Int) < ((p.getD []).length : Nat)) = True := eq_true (by omega)
    have va := h1 a (by rw [hl]; simp)
    have vb := h1 b (by rw [hl]; simp)
    have r := ih (pre ++ [a]) b (by simp [hl])
    simp only [List.length_append, List.length_cons, List.length_nil, Nat.zero_add] at r
    have lo := leftI_B (q.getD []) a b
    rw [loopP.eq_1]
    simp only [e_lb0_impl_areItems, U.len, obind_sm, aBin_lss, lt, decide_true, condB_bv, cond_true, aBin_sub, w0, U.idx, i0, U.load, g0, cut, List.drop_zero, cells_int', i1, g1, he, aCallQ_pure, callG3, List.cons_append, List.nil_append, snapD_int, hc, hq, va, vb, Bool.and_self, cond_true, hand_iv, obind2_sm, aBin_geq, lo, aBin_add, w1]
    cases hlt : leftB (q.getD []) a b
    · simp only [Bool.not_false, cond_true, restr, cond_false, obind_sm, e_lk0r_impl_areItems, ordB, hlt, Bool.false_and]
    · simp only [Bool.not_true, cond_false, restr, cond_true]
      rw [r]
      simp only [ordB, hlt, Bool.true_and]

theorem ok_impl_areItems : PureOK Try.prog n_impl_areItems (G2 (fun (q : Sl Box) (p : Sl Int) => fit q && fit p) fun q p => bv ((p.getD []).all (isIdx ((q.getD []).length : Nat)) && ordB (leftB (q.getD [])) (p.getD []))) :=
  pureG2 (E3 ok_impl_areIndices ok_impl_leftToRight ok_impl_leftToRight_1) mixed hb_impl_areItems fun q p h => by
  simp at h
  have U := lookT p (w := 1) rfl
  have sn : snapD [] (Sl.enc q) = some q := snapD_enc [] q
  have nr : noRef depth (Sl.enc q) = true := by cases q <;> rfl
  cases h1 : (p.getD []).all (isIdx ((q.getD []).length : Nat))
  · simp [e_impl_areItems, envL, h, h1]
  · have hh := hand_ltr q true [] rfl
    cases h3 : p.getD [] with
    | nil =>
      have U3 := U.len
      rw [h3] at U3
      rw [h3] at h1
      simp [e_impl_areItems, envL, h, h1, h3, sn, nr, hh]
      rw [loopP.eq_1]
      simp [e_lb0_impl_areItems, U3, restr, e_lk0x0_impl_areItems, ordB]
    | cons a suf =>
      have L := fun env he {y2 y3 y7 y8 y9 y10 y11 y12} => @lp_impl_areItems env he y2 y3 y7 y8 y9 y10 y11 y12 q p h.1 h.2 h1 suf [] a (by simpa using h3)
      have h1c := h1
      rw [h3, List.all_cons, Bool.and_eq_true] at h1c
      rw [h3] at h1
      simp at L
      simp [e_impl_areItems, envL, h, h3, h1c.1, h1c.2, sn, nr, hh, L]

theorem ok_spec_l19Left : PureOK Try.prog n_spec_l19Left (G3 (fun (q : Sl Box) (i j : Int) => isIdx ((q.getD []).length : Nat) i && isIdx ((q.getD []).length : Nat) j) fun q i j => bv (leftB (q.getD []) i j)) :=
  pureG3 E0 mixed hb_spec_l19Left fun q i j h => by
  simp at h
  have T := lookT q (w := 4) rfl
  obtain ⟨i1, i2⟩ := isIdx_idx h.1
  obtain ⟨j1, j2⟩ := isIdx_idx h.2
  obtain ⟨a, ha⟩ : ∃ a, (q.getD [])[i.toNat]'i2 = a := ⟨_, rfl⟩
  obtain ⟨b, hb⟩ : ∃ b, (q.getD [])[j.toNat]'j2 = b := ⟨_, rfl⟩
  have e1 : leftB (q.getD []) i j = (bif decide (a.x1 = b.x1) then (bif decide (a.x2 = b.x2) then decide (i < j) else decide (a.x2 < b.x2)) else decide (a.x1 < b.x1)) := by simp [leftB, i2, j2, ha, hb]
  have l1 : ∀ k a1 a2 a3 a4 t, aLoad false 1 (.ptr 0 1 0 k) (⟨4, [[iv a1, iv a2, iv a3, iv a4]]⟩ :: t) = cut false 1 ([iv a1, iv a2, iv a3, iv a4].drop k) := fun _ _ _ _ _ _ => rfl
  have l2 : ∀ k x a1 a2 a3 a4 t, aLoad false 1 (.ptr 1 1 0 k) (x :: ⟨4, [[iv a1, iv a2, iv a3, iv a4]]⟩ :: t) = cut false 1 ([iv a1, iv a2, iv a3, iv a4].drop k) := fun _ _ _ _ _ _ _ => rfl
  rw [e1]
  by_cases c1 : a.x1 = b.x1 <;> by_cases c2 : a.x2 = b.x2 <;> simp [e_spec_l19Left, T.idx, T.fld, T.load, i1, i2, j1, j2, ha, hb, cut, aBox, aStore, splice, l1, l2, c1, c2]

theorem lp_spec_l19Items (env : Nat → Contract) (he : env n_spec_l00In = .pure (T3 within)) (hg : env n_spec_l19Left = .pure (G3 (fun (q : Sl Box) (i j : Int) => isIdx ((q.getD []).length : Nat) i && isIdx ((q.getD []).length : Nat) j) fun q i j => bv (leftB (q.getD []) i j))) {y2 y3 : AV} (q : Sl Box) (p : Sl Int) (hq : fit q = true) (hp : fit p = true) : ∀ (suf pre : List Int) (a : Int), p.getD [] = pre ++ a :: suf → isIdx ((q.getD []).length : Nat) a = true →
    (obind (loopP hm0_spec_l19Items xm0_spec_l19Items (lb0_spec_l19Items env) [Sl.enc q, Sl.enc p, y2, y3, .top, iv ((pre.length + 1 : Nat) : Int), .top, .top, .top, .top, .top, .top, .top, .top, .top, .top, .top, .top, .top, .top, .top, .top, .top, .top, .top, .top, .top, .top, .top, .top, .top, .top, .top, .top, .top, .top, .top] []) fun r => lk0_spec_l19Items env r.1 r.2.1 r.2.2) = some (bv (suf.all (isIdx ((q.getD []).length : Nat)) && ordB (leftB (q.getD [])) (a :: suf)), []) := by
  have T := lookT q (w := 4) rfl
  have U := lookT p (w := 1) rfl
  have hlen := fit_len hp
  have hlq := fit_len hq
  have hw : wr (((q.getD []).length : Nat) - 1 : Int) = ((q.getD []).length : Nat) - 1 := wr_id (by omega) (by omega)
  have sn : snapD [] (Sl.enc q) = some q := snapD_enc [] q
  intro suf
  induction suf with
  | nil =>
    intro pre a hl ha
    have hn : (p.getD []).length = pre.length + 1 := by rw [hl]; simp
    rw [loopP.eq_1]
    simp [e_lb0_spec_l19Items, U.len, hn, restr, e_lk0x0_spec_l19Items, ordB]
  | cons b suf ih =>
    intro pre a hl ha
    have hn : (p.getD []).length = pre.length + 1 + (suf.length + 1) := by rw [hl]; simp; omega
    have g0 : (p.getD [])[pre.length]? = some a := by rw [hl]; simp
    have g1 : (p.getD [])[pre.length + 1]? = some b := by rw [hl, List.getElem?_append_right (by omega)]; simp
    have i0 : idx (iv (pre.length : Int)) (p.getD []).length = some pre.length := idx_lt (by omega)
    have i1 : idx (iv ((pre.length + 1 : Nat) : Int)) (p.getD []).length = some (pre.length + 1) := idx_lt (by omega)
    have w0 : wr (((pre.length + 1 : Nat) : Int) - 1) = (pre.length : Int) := by rw [wr_id (by omega) (by omega)]; omega
    have w1 : wr (((pre.length + 1 : Nat) : Int) + 1) = ((pre.length + 1 + 1 : Nat) : Int) := by rw [wr_id (by omega) (by omega)]; omega
    have lt : (((pre.length + 1 : Nat) : Int) < ((p.getD []).length : Nat)) = True := eq_true (by omega)
    have gt : ((0 : Int) < ((pre.length + 1 : Nat) : Int)) = True := eq_true (by omega)
    have hin : isIdx ((q.getD []).length : Nat) b = within b 0 (((q.getD []).length : Nat) - 1) := rfl
    rw [loopP.eq_1]
    cases hb : isIdx ((q.getD []).length : Nat) b
    · have hb' := hb
      rw [hin] at hb'
      simp only [e_lb0_spec_l19Items, T.len, U.len, obind_sm, aBin_lss, lt, decide_true, condB_bv, cond_true, aBin_sub, hw, U.idx, i1, g1, U.load, cut, List.drop_zero, cells_int', he, aCall_pure, callT3, snapD_int, hb', obind2_sm, aUn_not, Bool.not_false, restr, cond_false, e_lk0r_spec_l19Items, List.all_cons, hb, Bool.false_and, hand_bv, enc_bool]
    · have hb' := hb
      rw [hin] at hb'
      have r := ih (pre ++ [a]) b (by simp [hl]) hb
      simp only [List.length_append, List.length_cons, List.length_nil, Nat.zero_add] at r
      simp only [e_lb0_spec_l19Items, T.len, U.len, obind_sm, aBin_lss, lt, decide_true, condB_bv, cond_true, aBin_sub, hw, U.idx, i1, g1, U.load, cut, List.drop_zero, cells_int', he, aCall_pure, callT3, snapD_int, hb', obind2_sm, aUn_not, Bool.not_true, cond_false, aBin_gtr, gt, guardB_true, w0, i0, g0, hg, aCallQ_pure, callG3, sn, ha, hb, Bool.and_self, hand_bv, enc_bool, aBin_add, w1]
      cases hlt : leftB (q.getD []) a b
      · simp [restr, e_lk0r_spec_l19Items, ordB, hlt]
      · simp [restr, ordB, hlt, hb]
        simpa using r
theorem ok_spec_l19Items : PureOK Try.prog n_spec_l19Items (G2 (fun (q : Sl Box) (p : Sl Int) => fit q && fit p) fun q p => bv ((p.getD []).all (isIdx ((q.getD []).length : Nat)) && ordB (leftB (q.getD [])) (p.getD []))) :=
  pureG2 (E2 ok_spec_l00In ok_spec_l19Left) mixed hb_spec_l19Items fun q p h => by
  simp at h
  have T := lookT q (w := 4) rfl
  have U := lookT p (w := 1) rfl
  have hlen := fit_len h.2
  have hlq := fit_len h.1
  have hw : wr (((q.getD []).length : Nat) - 1 : Int) = ((q.getD []).length : Nat) - 1 := wr_id (by omega) (by omega)
  rw [e_spec_l19Items]
  cases h3 : p.getD [] with
  | nil =>
    have U3 := U.len
    rw [h3] at U3
    simp
    rw [loopP.eq_1]
    simp [e_lb0_spec_l19Items, U3, restr, e_lk0x0_spec_l19Items, ordB]
  | cons a suf =>
    have L := fun env he hg {y2 y3} => @lp_spec_l19Items env he hg y2 y3 q p h.1 h.2 suf [] a (by simpa using h3)
    have g1 : (p.getD [])[0]? = some a := by rw [h3]; rfl
    have i1 : idx (iv (0 : Int)) (p.getD []).length = some 0 := idx_lt (i := 0) (by rw [h3]; simp)
    have lt : ((0 : Int) < ((p.getD []).length : Nat)) = True := eq_true (by rw [h3]; simp)
    have ltn : (0 < (p.getD []).length) = True := eq_true (by rw [h3]; simp)
    have g2 : ∀ hh : 0 < (p.getD []).length, (p.getD [])[0]'hh = a := fun hh => by
      have := List.getElem?_eq_getElem hh
      rw [g1] at this
      exact (Option.some.inj this).symm
    have hin : isIdx ((q.getD []).length : Nat) a = within a 0 (((q.getD []).length : Nat) - 1) := rfl
    have w1 : wr (0 + 1 : Int) = 1 := rfl
    have w1' : wr (1 : Int) = 1 := rfl
    rw [loopP.eq_1]
    cases hb : isIdx ((q.getD []).length : Nat) a
    · have hb' := hb
      rw [hin] at hb'
      simp [e_lb0_spec_l19Items, envL, T.len, U.len, lt, ltn, hw, U.idx, i1, g1, g2, U.load, cut, hb', restr, e_lk0r_spec_l19Items, hb]
    · have hb' := hb
      rw [hin] at hb'
      simp at L
      simp [e_lb0_spec_l19Items, envL, T.len, U.len, lt, ltn, hw, U.idx, i1, g1, g2, U.load, cut, hb', restr, hb, w1, w1', L]

/-- Are items places of boxes, from left to right? As the contracts by hand have it. -/
def itemsO (q : Sl Box) (p : Sl Int) : Option Bool := bif fit q && fit p then some ((p.getD []).all (isIdx ((q.getD []).length : Nat)) && ordB (leftB (q.getD [])) (p.getD [])) else none
def t_impl_areItems (q : Sl Box) (p : Sl Int) : Option Bool := itemsO q p
def t_spec_l19Items (q : Sl Box) (p : Sl Int) : Option Bool := itemsO q p

theorem itemsC : C2 (fun c : Bool => enc c) itemsO = G2 (fun (q : Sl Box) (p : Sl Int) => fit q && fit p) fun q p => bv ((p.getD []).all (isIdx ((q.getD []).length : Nat)) && ordB (leftB (q.getD [])) (p.getD [])) := by
  unfold C2 G2
  congr 1
  funext q p
  unfold itemsO
  show obind (bif (fit q && fit p) then some _ else none) (fun c : Bool => some (enc c)) = bif (fit q && fit p) then some _ else none
  cases fit q && fit p <;> rfl
theorem tt_impl_areItems : PureOK Try.prog n_impl_areItems (C2 (fun c : Bool => enc c) t_impl_areItems) := by
  have h := ok_impl_areItems
  rw [← itemsC] at h
  exact h
theorem tt_spec_l19Items : PureOK Try.prog n_spec_l19Items (C2 (fun c : Bool => enc c) t_spec_l19Items) := by
  have h := ok_spec_l19Items
  rw [← itemsC] at h
  exact h

/-- Marks in a list of numbers, of boxes. -/
def mkI : Int → Nat → List Int
  | _, 0 => []
  | k, n + 1 => k :: mkI (k + 1) n
def mkB : Int → Nat → List Box
  | _, 0 => []
  | k, n + 1 => ⟨k, k + 1, k + 2, k + 3⟩ :: mkB (k + 4) n
theorem mkI_len : ∀ (n : Nat) (k : Int), (mkI k n).length = n
  | 0, _ => rfl
  | n + 1, k => by simp [mkI, mkI_len n]
theorem mkB_len : ∀ (n : Nat) (k : Int), (mkB k n).length = n
  | 0, _ => rfl
  | n + 1, k => by simp [mkB, mkB_len n]
def t_laws_markInt64S (s : Sl Int) (k : Int) : Option (Int × Sl Int) := bif decide (0 ≤ k) && decide (k + 1 * ((s.getD []).length : Nat) ≤ 1000000000) then some (k + 1 * ((s.getD []).length : Nat), s.map fun l => mkI k l.length) else none
def t_laws_markBoxS (s : Sl Box) (k : Int) : Option (Int × Sl Box) := bif decide (0 ≤ k) && decide (k + 4 * ((s.getD []).length : Nat) ≤ 1000000000) then some (k + 4 * ((s.getD []).length : Nat), s.map fun l => mkB k l.length) else none

theorem mrows_I : ∀ (n k : Nat), mrows [false] k n = (mkI (k : Int) n).map Row.cells
  | 0, _ => rfl
  | n + 1, k => by
    have ih := mrows_I n (k + 1)
    show [iv (k : Int)] :: mrows [false] (k + 1) n = [iv (k : Int)] :: (mkI ((k : Int) + 1) n).map Row.cells
    rw [ih]
    rfl
theorem mk_laws_markInt64S : MarkOK (denFn Try.prog (envL []) n_laws_markInt64S) t_laws_markInt64S := by
  intro s k r s' h
  unfold t_laws_markInt64S at h
  cases c : decide (0 ≤ k) && decide (k + 1 * ((s.getD []).length : Nat) ≤ 1000000000) with
  | false => rw [c] at h; cases h
  | true =>
    rw [c] at h
    simp only [cond_true, Option.some.injEq, Prod.mk.injEq] at h
    obtain ⟨rfl, rfl⟩ := h
    simp only [Bool.and_eq_true, decide_eq_true_eq] at c
    obtain ⟨m, rfl⟩ := Int.eq_ofNat_of_zero_le c.1
    cases s with
    | none =>
      refine .inl ⟨rfl, rfl, fun h => ?_⟩
      rw [e_laws_markInt64S, loopP.eq_1]
      simp [e_lb0_laws_markInt64S, e_lk0x0_laws_markInt64S, restr]
    | some l =>
      refine .inr ⟨l, mkI m l.length, rfl, rfl, mkI_len _ _, fun o h ho => ?_⟩
      have g := gen_laws_markInt64S (envL []) (l.map Row.cells) o l.length (by simp) (by simp only [Option.getD_some] at c; omega) (fun r hr => by
        obtain ⟨a, _, rfl⟩ := List.mem_map.1 hr
        rfl) m (by simp only [Option.getD_some] at c; omega) h ho
      rw [mrows_I] at g
      rw [g]
      simp only [Option.getD_some]
      congr 3

theorem mrows_B : ∀ (n k : Nat), mrows [false, false, false, false] k n = (mkB (k : Int) n).map Row.cells
  | 0, _ => rfl
  | n + 1, k => by
    have ih := mrows_B n (k + 4)
    show [iv (k : Int), iv ((k + 1 : Nat) : Int), iv ((k + 1 + 1 : Nat) : Int), iv ((k + 1 + 1 + 1 : Nat) : Int)] :: mrows [false, false, false, false] (k + 4) n = [iv (k : Int), iv ((k : Int) + 1), iv ((k : Int) + 2), iv ((k : Int) + 3)] :: (mkB ((k : Int) + 4) n).map Row.cells
    rw [ih]
    rfl
theorem mk_laws_markBoxS : MarkOK (denFn Try.prog (envL []) n_laws_markBoxS) t_laws_markBoxS := by
  intro s k r s' h
  unfold t_laws_markBoxS at h
  cases c : decide (0 ≤ k) && decide (k + 4 * ((s.getD []).length : Nat) ≤ 1000000000) with
  | false => rw [c] at h; cases h
  | true =>
    rw [c] at h
    simp only [cond_true, Option.some.injEq, Prod.mk.injEq] at h
    obtain ⟨rfl, rfl⟩ := h
    simp only [Bool.and_eq_true, decide_eq_true_eq] at c
    obtain ⟨m, rfl⟩ := Int.eq_ofNat_of_zero_le c.1
    cases s with
    | none =>
      refine .inl ⟨rfl, rfl, fun h => ?_⟩
      rw [e_laws_markBoxS, loopP.eq_1]
      simp [e_lb0_laws_markBoxS, e_lk0x0_laws_markBoxS, restr]
    | some l =>
      refine .inr ⟨l, mkB m l.length, rfl, rfl, mkB_len _ _, fun o h ho => ?_⟩
      have g := gen_laws_markBoxS (envL []) (l.map Row.cells) o l.length (by simp) (by simp only [Option.getD_some] at c; omega) (fun r hr => by
        obtain ⟨a, _, rfl⟩ := List.mem_map.1 hr
        rfl) m (by simp only [Option.getD_some] at c; omega) h ho
      rw [mrows_B] at g
      rw [g]
      simp only [Option.getD_some]
      congr 3

/-- Marks in a table of lists of numbers. -/
def mkL : List (Sl Int) → Int → Option (Int × List (Sl Int))
  | [], k => some (k, [])
  | a :: l, k => obind (t_laws_markInt64S a k) fun p => obind (mkL l p.1) fun q => some (q.1, p.2 :: q.2)
def t_laws_markInt64SS (s : Sl (Sl Int)) (k : Int) : Option (Int × Sl (Sl Int)) := bif decide ((s.getD []).length ≤ 4294967296) then match s with
  | none => some (k, none)
  | some l => obind (mkL l k) fun q => some (q.1, some q.2) else none

noncomputable def ev_laws_markInt64SS : Nat → Contract := envL [(n_laws_markInt64S, .gen (denFn Try.prog (envL []) n_laws_markInt64S))]
theorem eo_laws_markInt64SS : EnvOK Try.prog ev_laws_markInt64SS := EconsG (gen_of_den E0 mixed hb_laws_markInt64S) E0
theorem lp_laws_markInt64SS {B : Base} {l : List Ent} {x y2 y3 y4 y18 : AV} : ∀ (n i : Nat) (q : List (Sl Int × AV)) (k r : Int) (t : List (Sl Int)) (h : Heap), i + n = q.length → q.length ≤ 4294967296 → Hold B h (l ++ D2 x (some q)) → mkL ((q.drop i).map Prod.fst) k = some (r, t) →
    ∃ h' q', (obind (loopP hm0_laws_markInt64SS xm0_laws_markInt64SS (lb0_laws_markInt64SS ev_laws_markInt64SS) [x, iv k, y2, y3, y4, iv (i : Nat), .top, .top, .top, .top, .top, .top, .top, .top, .top, .top, .top, .top, y18] h) fun r => lk0_laws_markInt64SS ev_laws_markInt64SS r.1 r.2.1 r.2.2) = some (iv r, h') ∧ q'.map Prod.fst = (q.take i).map Prod.fst ++ t ∧ Hold B h' (l ++ D2 x (some q')) := by
  intro n
  induction n with
  | zero =>
    intro i q k r t h hi hq O hm
    have e : q.drop i = [] := List.drop_eq_nil_of_le (by omega)
    rw [e] at hm
    cases hm
    have hl : aLenK .slice x = some (iv (q.length : Nat)) := by simpa [pj] using D2.len O
    have : ¬ i < q.length := by omega
    refine ⟨h, q, ?_, ?_, O⟩
    · rw [loopP.eq_1]
      simp [e_lb0_laws_markInt64SS, restr, e_lk0x0_laws_markInt64SS, hl, this]
    · rw [List.take_of_length_le (by omega), List.append_nil]
  | succ n ih =>
    intro i q k r t h hi hq O hm
    have hlt : i < q.length := by omega
    obtain ⟨⟨a, y⟩, hy⟩ : ∃ p, q[i]? = some p := ⟨q[i], List.getElem?_eq_getElem hlt⟩
    have hd : q.drop i = (a, y) :: q.drop (i + 1) := by
      rw [List.drop_eq_getElem_cons hlt]
      rw [List.getElem?_eq_getElem hlt] at hy
      rw [Option.some.inj hy]
    rw [hd] at hm
    change obind (t_laws_markInt64S a k) (fun p => obind (mkL ((q.drop (i + 1)).map Prod.fst) p.1) fun q => some (q.1, p.2 :: q.2)) = some (r, t) at hm
    cases e1 : t_laws_markInt64S a k with
    | none => rw [e1] at hm; cases hm
    | some p =>
      obtain ⟨k1, a'⟩ := p
      rw [e1, obind_sm] at hm
      cases e2 : mkL ((q.drop (i + 1)).map Prod.fst) k1 with
      | none => rw [e2] at hm; cases hm
      | some p2 =>
        obtain ⟨r2, t2⟩ := p2
        rw [e2] at hm
        cases hm
        have hl : aLenK .slice x = some (iv (q.length : Nat)) := by simpa [pj] using D2.len O
        have hy' : ((some q : PS (Sl Int)).getD [])[i]? = some (a, y) := hy
        have hat := D2.at (A := Sl Int) (l := l) (x := x) hy'
        obtain ⟨o, hx, ho⟩ := D2.head O
        have e3 : aIndexAddr 1 x (iv ((i : Nat) : Int)) h = some (elp x i 0) := by
          subst hx
          simp only [aIndexAddr, ho, List.length_map]
          rw [if_pos ⟨trivial, rfl⟩, idx_lt hlt]
          rfl
        have e4 : aLoad false 1 (elp x i 0) h = some y := by
          rw [D2.ld O hy' false 1 0]
          simp [Inn.row, cut]
        obtain ⟨h1, e5, O1⟩ := O.mark _ hat mk_laws_markInt64S e1
        have hset : (l ++ D2 x (some q)).set (l.length + 1 + i) (y, obS a') = l ++ D2 (A := Sl Int) x (some (q.set i (a', y))) := by
          rw [List.set_append_right _ _ (by omega)]
          have : l.length + 1 + i - l.length = i + 1 := by omega
          rw [this]
          have hr : (q.set i (a', y)).map (fun p => Inn.row (A := Sl Int) p.1 p.2) = q.map fun p => Inn.row (A := Sl Int) p.1 p.2 := by
            rw [List.map_set]
            apply List.ext_getElem?
            intro j
            by_cases ej : i = j
            · subst ej
              rw [List.getElem?_set_self (by simpa using hlt), List.getElem?_map, hy]
              rfl
            · rw [List.getElem?_set_ne ej]
          simp only [D2, List.set_cons_succ, hr, List.map_set]
          rfl
        have O2 : Hold B h1 (l ++ D2 (A := Sl Int) x (some (q.set i (a', y)))) := by
          rw [← hset]
          exact O1
        have ec : aCall (ev_laws_markInt64SS n_laws_markInt64S) [y, iv k] h = some (iv k1, h1) := by
          have : ev_laws_markInt64SS n_laws_markInt64S = .gen (denFn Try.prog (envL []) n_laws_markInt64S) := by simp [ev_laws_markInt64SS, envL]
          rw [this]
          exact e5
        have hdrop : (q.set i (a', y)).drop (i + 1) = q.drop (i + 1) := by
          rw [List.drop_set_of_lt (by omega)]
        obtain ⟨h2, q2, f1, f2, f3⟩ := ih (i + 1) (q.set i (a', y)) k1 r2 t2 h1 (by simp; omega) (by simpa using hq) O2 (by rw [hdrop]; exact e2)
        refine ⟨h2, q2, ?_, ?_, f3⟩
        · rw [loopP.eq_1]
          have hw : wr ((i : Int) + 1) = ((i + 1 : Nat) : Int) := by rw [wr_id (by omega) (by omega)]; omega
          simp [-Int.natCast_add, e_lb0_laws_markInt64SS, restr, hl, hlt, e3, e4, ec, hw]
          simpa [-Int.natCast_add] using f1
        · rw [f2, List.take_add_one, List.map_append]
          have : (q.set i (a', y))[i]? = some (a', y) := List.getElem?_set_self (by simpa using hlt)
          rw [this, List.take_set_of_le (Nat.le_refl _)]
          simp
theorem mk_laws_markInt64SS : MarkDOK (denFn Try.prog ev_laws_markInt64SS n_laws_markInt64SS) t_laws_markInt64SS := by
  intro B h l x ps k r s' O hm
  unfold t_laws_markInt64SS at hm
  cases c : decide (((pj ps).getD []).length ≤ 4294967296) with
  | false => rw [c] at hm; cases hm
  | true =>
    rw [c, cond_true] at hm
    have hc := of_decide_eq_true c
    cases ps with
    | none =>
      cases hm
      have hx := D2.nil O
      subst hx
      refine ⟨h, none, ?_, rfl, O⟩
      rw [e_laws_markInt64SS, loopP.eq_1]
      simp [e_lb0_laws_markInt64SS, e_lk0x0_laws_markInt64SS, restr]
    | some q =>
      change obind (mkL (q.map Prod.fst) k) (fun q => some (q.1, some q.2)) = some (r, s') at hm
      cases e2 : mkL (q.map Prod.fst) k with
      | none => rw [e2] at hm; cases hm
      | some p2 =>
        obtain ⟨r2, t2⟩ := p2
        rw [e2] at hm
        cases hm
        obtain ⟨h1, q1, f1, f2, f3⟩ := lp_laws_markInt64SS (y2 := und) (y3 := und) (y4 := iv 0) (y18 := und) q.length 0 q k r2 t2 h (by omega) (by simpa [pj] using hc) O e2
        refine ⟨h1, some q1, ?_, by simpa [pj] using f2, f3⟩
        rw [e_laws_markInt64SS]
        exact f1

def t_laws_szBoxS (a_ : Sl Box) (left_ : Int) : Option Int :=
  bif decide ((wr (left_ - (((a_.getD []).length : Nat) : Int))) < 0) then
    some (-1)
  else
    some (wr (left_ - (((a_.getD []).length : Nat) : Int)))

theorem ts_laws_szBoxS (env : Nat → Contract)  (a_ : Sl Box) (left_ : Int) : Sim (denFn Try.prog env n_laws_szBoxS [Sl.enc a_, iv left_] []) (t_laws_szBoxS a_ left_) fun c p => release p.2 depth p.1 = some ((fun c : Int => enc c) c) := by
  have O := Hold.nil []
  generalize hB : (⟨[], []⟩ : Base) = B at O
  clear hB
  rw [e_laws_szBoxS]
  unfold t_laws_szBoxS
  refine sim_let (v := iv (((a_.getD []).length : Nat) : Int)) (Tab.enc [] a_).len ?_
  refine sim_let (v := iv (wr (left_ - (((a_.getD []).length : Nat) : Int)))) (aBin_sub _ _) ?_
  refine sim_let (v := bv (decide ((wr (left_ - (((a_.getD []).length : Nat) : Int))) < 0))) (aBin_lss _ _) ?_
  refine sim_cond (fun c1 => ?_) (fun c1 => ?_)
  · exact sim_ret (release_plain (by rfl) _)
  · exact sim_ret (release_plain (by rfl) _)
theorem tt_laws_szBoxS : PureOK Try.prog n_laws_szBoxS (C2 (fun c : Int => enc c) t_laws_szBoxS) := pureC2 E0 mixed hb_laws_szBoxS fun a_ left_ => ts_laws_szBoxS _  a_ left_

def s0_laws_toBoxS (a_ : Sl Box) : ((Sl Box) × Int) → Option (Sum ((Sl Box) × Int) (Sl Box)) := fun (w6, w9) =>
  bif decide (w9 < (((a_.getD []).length : Nat) : Int)) then
    obind (getI (a_.getD []) w9) fun a15 =>
    obind (some ((fun b : Box => b) a15)) fun c19 =>
    obind (getI (w6.getD []) w9) fun a20 =>
    some (.inl ((setS w6 w9 c19), wr (w9 + 1)))
  else
    some (.inr w6)
def t_laws_toBoxS (a_ : Sl Box) : Option (Sl Box) :=
  obind (makeO (⟨0, 0, 0, 0⟩ : Box) (((a_.getD []).length : Nat) : Int)) fun l5 =>
  obind (loopT (s0_laws_toBoxS a_) ((some l5), 0)) fun q12 =>
  some q12

theorem tl0_laws_toBoxS (env : Nat → Contract) {B : Base} (he_laws_toBox : env n_laws_toBox = .pure (T1 (fun b : Box => b))) (a_ : Sl Box) (x1 : AV)  {st : (Sl Box) × Int} {tm : TM} {h : Heap} (R : (fun (st : (Sl Box) × Int) tm h7 => match st with | (w6, w9) => tm = [Sl.enc a_, und, nilS, x1, iv w9, Sl.enc a_, iv (((a_.getD []).length : Nat) : Int), x1, AV.top, AV.top, AV.top, AV.top, AV.top, AV.top, AV.top, AV.top, AV.top, AV.top, AV.top, AV.top, AV.top, AV.top, und] ∧ Hold B h7 [(x1, obS (w6 : Sl Box))]) st tm h) : Sim (loopP hm0_laws_toBoxS xm0_laws_toBoxS (lb0_laws_toBoxS env) tm h) (loopT (s0_laws_toBoxS a_) st) (fun (q : Sl Box) (r : Res) => match q with | q12 => ∃ (q13 : Int) (h10 : Heap), r = (.exit 0, [Sl.enc a_, und, nilS, x1, iv q13, Sl.enc a_, iv (((a_.getD []).length : Nat) : Int), x1, AV.top, AV.top, AV.top, AV.top, AV.top, AV.top, AV.top, AV.top, AV.top, AV.top, AV.top, AV.top, AV.top, AV.top, und], h10) ∧ Hold B h10 [(x1, obS (q12 : Sl Box))]) := by
  refine loop_sim (Rel := fun (st : (Sl Box) × Int) tm h7 => match st with | (w6, w9) => tm = [Sl.enc a_, und, nilS, x1, iv w9, Sl.enc a_, iv (((a_.getD []).length : Nat) : Int), x1, AV.top, AV.top, AV.top, AV.top, AV.top, AV.top, AV.top, AV.top, AV.top, AV.top, AV.top, AV.top, AV.top, AV.top, und] ∧ Hold B h7 [(x1, obS (w6 : Sl Box))]) (fun st tm h7 R => ?_) R
  obtain ⟨w6, w9⟩ := st
  obtain ⟨rfl, O8⟩ := R
  rw [e_lb0_laws_toBoxS]
  unfold s0_laws_toBoxS
  dsimp only
  refine sim_let (v := iv (((a_.getD []).length : Nat) : Int)) (Tab.enc h7 a_).len ?_
  refine sim_let (v := bv (decide (w9 < (((a_.getD []).length : Nat) : Int)))) (aBin_lss _ _) ?_
  refine sim_cond (fun c14 => ?_) (fun c14 => ?_)
  · refine sim_get (Tab.enc h7 a_) (fun m16 a15 hi17 hm18 => ?_)
    refine sim_let (v := AV.agg [iv a15.x1, iv a15.y1, iv a15.x2, iv a15.y2]) ((Tab.enc h7 a_).ld hm18 true 4 0) ?_
    refine sim_callV1 (t := (fun b : Box => b)) he_laws_toBox (snapD_nr _ a15 rfl) (fun c19 => ?_)
    refine sim_get (O8.tab (A := Box) (s := w6) 0 rfl) (fun m21 a20 hi22 hm23 => ?_)
    refine sim_set (A := Box) O8 0 c19 rfl hi22 hm23 rfl (by simp) (by first | rfl | simp) (by first | rfl | simp [splice]) (fun h24 O25 => ?_)
    replace O25 : Hold B h24 [(x1, obS ((setS w6 w9 c19) : Sl Box))] := O25
    refine sim_let (v := iv (wr (w9 + 1))) (aBin_add _ _) ?_
    exact sim_ret ⟨rfl, rfl, O25⟩
  · exact sim_ret ⟨nofun, _, _, rfl, O8⟩
theorem ts_laws_toBoxS (env : Nat → Contract) (he_laws_toBox : env n_laws_toBox = .pure (T1 (fun b : Box => b))) (a_ : Sl Box) : Sim (denFn Try.prog env n_laws_toBoxS [Sl.enc a_] []) (t_laws_toBoxS a_) fun c p => release p.2 depth p.1 = some ((fun c : (Sl Box) => rS c) c) := by
  have O := Hold.nil []
  generalize hB : (⟨[], []⟩ : Base) = B at O
  clear hB
  rw [e_laws_toBoxS]
  unfold t_laws_toBoxS
  refine sim_let (v := iv (((a_.getD []).length : Nat) : Int)) (Tab.enc [] a_).len ?_
  refine sim_make (A := Box) O (⟨0, 0, 0, 0⟩ : Box) rfl (by decide) (fun l5 x1 h2 O3 => ?_)
  replace O3 : Hold B h2 [(x1, obS ((some l5) : Sl Box))] := O3
  refine sim_bind ((tl0_laws_toBoxS env he_laws_toBox a_ x1) ⟨rfl, O3⟩) (fun qq29 r hq => ?_)
  revert hq
  revert qq29
  intro q12 hq
  obtain ⟨q13, h10, rfl, O11⟩ := hq
  rw [e_lk0x0_laws_toBoxS]
  exact sim_ret (O11.rel (A := Box) (s := q12) 0 rfl)
theorem tt_laws_toBoxS : PureOK Try.prog n_laws_toBoxS (C1 (fun c : (Sl Box) => rS c) t_laws_toBoxS) := pureC1 (Econs ok_laws_toBox E0) mixed hb_laws_toBoxS fun a_ => ts_laws_toBoxS _ (by simp [envL]) a_

def s0_laws_toInt64S (a_ : Sl Int) : ((Sl Int) × Int) → Option (Sum ((Sl Int) × Int) (Sl Int)) := fun (w6, w9) =>
  bif decide (w9 < (((a_.getD []).length : Nat) : Int)) then
    obind (getI (a_.getD []) w9) fun a15 =>
    obind (getI (w6.getD []) w9) fun a19 =>
    some (.inl ((setS w6 w9 a15), wr (w9 + 1)))
  else
    some (.inr w6)
def t_laws_toInt64S (a_ : Sl Int) : Option (Sl Int) :=
  obind (makeO 0 (((a_.getD []).length : Nat) : Int)) fun l5 =>
  obind (loopT (s0_laws_toInt64S a_) ((some l5), 0)) fun q12 =>
  some q12

theorem tl0_laws_toInt64S (env : Nat → Contract) {B : Base}  (a_ : Sl Int) (x1 : AV)  {st : (Sl Int) × Int} {tm : TM} {h : Heap} (R : (fun (st : (Sl Int) × Int) tm h7 => match st with | (w6, w9) => tm = [Sl.enc a_, und, nilS, x1, iv w9, Sl.enc a_, iv (((a_.getD []).length : Nat) : Int), x1, AV.top, AV.top, AV.top, AV.top, AV.top, AV.top, AV.top, AV.top, AV.top, AV.top, AV.top, AV.top, AV.top, und] ∧ Hold B h7 [(x1, obS (w6 : Sl Int))]) st tm h) : Sim (loopP hm0_laws_toInt64S xm0_laws_toInt64S (lb0_laws_toInt64S env) tm h) (loopT (s0_laws_toInt64S a_) st) (fun (q : Sl Int) (r : Res) => match q with | q12 => ∃ (q13 : Int) (h10 : Heap), r = (.exit 0, [Sl.enc a_, und, nilS, x1, iv q13, Sl.enc a_, iv (((a_.getD []).length : Nat) : Int), x1, AV.top, AV.top, AV.top, AV.top, AV.top, AV.top, AV.top, AV.top, AV.top, AV.top, AV.top, AV.top, AV.top, und], h10) ∧ Hold B h10 [(x1, obS (q12 : Sl Int))]) := by
  refine loop_sim (Rel := fun (st : (Sl Int) × Int) tm h7 => match st with | (w6, w9) => tm = [Sl.enc a_, und, nilS, x1, iv w9, Sl.enc a_, iv (((a_.getD []).length : Nat) : Int), x1, AV.top, AV.top, AV.top, AV.top, AV.top, AV.top, AV.top, AV.top, AV.top, AV.top, AV.top, AV.top, AV.top, und] ∧ Hold B h7 [(x1, obS (w6 : Sl Int))]) (fun st tm h7 R => ?_) R
  obtain ⟨w6, w9⟩ := st
  obtain ⟨rfl, O8⟩ := R
  rw [e_lb0_laws_toInt64S]
  unfold s0_laws_toInt64S
  dsimp only
  refine sim_let (v := iv (((a_.getD []).length : Nat) : Int)) (Tab.enc h7 a_).len ?_
  refine sim_let (v := bv (decide (w9 < (((a_.getD []).length : Nat) : Int)))) (aBin_lss _ _) ?_
  refine sim_cond (fun c14 => ?_) (fun c14 => ?_)
  · refine sim_get (Tab.enc h7 a_) (fun m16 a15 hi17 hm18 => ?_)
    refine sim_let (v := iv a15) ((Tab.enc h7 a_).ld hm18 false 1 0) ?_
    refine sim_get (O8.tab (A := Int) (s := w6) 0 rfl) (fun m20 a19 hi21 hm22 => ?_)
    refine sim_set (A := Int) O8 0 a15 rfl hi21 hm22 rfl (by simp) (by first | rfl | simp) (by first | rfl | simp [splice]) (fun h23 O24 => ?_)
    replace O24 : Hold B h23 [(x1, obS ((setS w6 w9 a15) : Sl Int))] := O24
    refine sim_let (v := iv (wr (w9 + 1))) (aBin_add _ _) ?_
    exact sim_ret ⟨rfl, rfl, O24⟩
  · exact sim_ret ⟨nofun, _, _, rfl, O8⟩
theorem ts_laws_toInt64S (env : Nat → Contract)  (a_ : Sl Int) : Sim (denFn Try.prog env n_laws_toInt64S [Sl.enc a_] []) (t_laws_toInt64S a_) fun c p => release p.2 depth p.1 = some ((fun c : (Sl Int) => rS c) c) := by
  have O := Hold.nil []
  generalize hB : (⟨[], []⟩ : Base) = B at O
  clear hB
  rw [e_laws_toInt64S]
  unfold t_laws_toInt64S
  refine sim_let (v := iv (((a_.getD []).length : Nat) : Int)) (Tab.enc [] a_).len ?_
  refine sim_make (A := Int) O 0 rfl (by decide) (fun l5 x1 h2 O3 => ?_)
  replace O3 : Hold B h2 [(x1, obS ((some l5) : Sl Int))] := O3
  refine sim_bind ((tl0_laws_toInt64S env a_ x1) ⟨rfl, O3⟩) (fun qq28 r hq => ?_)
  revert hq
  revert qq28
  intro q12 hq
  obtain ⟨q13, h10, rfl, O11⟩ := hq
  rw [e_lk0x0_laws_toInt64S]
  exact sim_ret (O11.rel (A := Int) (s := q12) 0 rfl)
theorem tt_laws_toInt64S : PureOK Try.prog n_laws_toInt64S (C1 (fun c : (Sl Int) => rS c) t_laws_toInt64S) := pureC1 E0 mixed hb_laws_toInt64S fun a_ => ts_laws_toInt64S _  a_

def s0_spec_l19Boxes (boxes_ : Sl Box) : Int → Option (Sum Int (Sum Unit Bool)) := fun w3 =>
  bif decide (w3 < (((boxes_.getD []).length : Nat) : Int)) then
    obind (getI (boxes_.getD []) w3) fun a13 =>
    obind (some (validBox a13)) fun c17 =>
    bif !c17 then
      some (.inr (.inr false))
    else
      some (.inl (wr (w3 + 1)))
  else
    some (.inr (.inl ()))
def t_spec_l19Boxes (boxes_ : Sl Box) : Option Bool :=
  obind (loopT (s0_spec_l19Boxes boxes_) 0) fun qq23 => match qq23 with
  | (.inl _) =>
      some (decide ((((boxes_.getD []).length : Nat) : Int) ≤ 60))
  | (.inr q10) =>
      some q10

theorem tl0_spec_l19Boxes (env : Nat → Contract) {B : Base} (he_spec_l02Box : env n_spec_l02Box = .pure (T1 validBox)) (boxes_ : Sl Box)  {st : Int} {tm : TM} {h : Heap} (R : (fun (st : Int) tm h1 => match st with | w3 => tm = [Sl.enc boxes_, und, AV.top, iv w3, AV.top, AV.top, AV.top, AV.top, AV.top, AV.top, AV.top, AV.top, AV.top, AV.top, AV.top, AV.top, und, und, und] ∧ Hold B h1 []) st tm h) : Sim (loopP hm0_spec_l19Boxes xm0_spec_l19Boxes (lb0_spec_l19Boxes env) tm h) (loopT (s0_spec_l19Boxes boxes_) st) (fun (q : Sum Unit Bool) (r : Res) => match q with | .inl _ => ∃ (q7 : Int) (z6 : AV) (h4 : Heap), r = (.exit 0, [Sl.enc boxes_, und, z6, iv q7, AV.top, AV.top, AV.top, AV.top, AV.top, AV.top, AV.top, AV.top, AV.top, AV.top, AV.top, AV.top, und, und, und], h4) ∧ Hold B h4 [] | .inr q10 => ∃ (q11 : Int) (h8 : Heap), r = (.ret, [Sl.enc boxes_, und, bv q10, iv q11, AV.top, AV.top, AV.top, AV.top, AV.top, AV.top, AV.top, AV.top, AV.top, AV.top, AV.top, AV.top, und, und, und], h8) ∧ Hold B h8 []) := by
  refine loop_sim (Rel := fun (st : Int) tm h1 => match st with | w3 => tm = [Sl.enc boxes_, und, AV.top, iv w3, AV.top, AV.top, AV.top, AV.top, AV.top, AV.top, AV.top, AV.top, AV.top, AV.top, AV.top, AV.top, und, und, und] ∧ Hold B h1 []) (fun w3 tm h1 R => ?_) R
  obtain ⟨rfl, O2⟩ := R
  rw [e_lb0_spec_l19Boxes]
  unfold s0_spec_l19Boxes
  dsimp only
  refine sim_let (v := iv (((boxes_.getD []).length : Nat) : Int)) (Tab.enc h1 boxes_).len ?_
  refine sim_let (v := bv (decide (w3 < (((boxes_.getD []).length : Nat) : Int)))) (aBin_lss _ _) ?_
  refine sim_cond (fun c12 => ?_) (fun c12 => ?_)
  · refine sim_get (Tab.enc h1 boxes_) (fun m14 a13 hi15 hm16 => ?_)
    refine sim_let (v := AV.agg [iv a13.x1, iv a13.y1, iv a13.x2, iv a13.y2]) ((Tab.enc h1 boxes_).ld hm16 true 4 0) ?_
    refine sim_callV1 (t := validBox) he_spec_l02Box (snapD_nr _ a13 rfl) (fun c17 => ?_)
    refine sim_let (v := bv (!c17)) (aUn_not _) ?_
    refine sim_cond (fun c18 => ?_) (fun c18 => ?_)
    · exact sim_ret ⟨nofun, _, _, rfl, O2⟩
    · refine sim_let (v := iv (wr (w3 + 1))) (aBin_add _ _) ?_
      exact sim_ret ⟨rfl, rfl, O2⟩
  · exact sim_ret ⟨nofun, _, _, _, rfl, O2⟩
theorem ts_spec_l19Boxes (env : Nat → Contract) (he_spec_l02Box : env n_spec_l02Box = .pure (T1 validBox)) (boxes_ : Sl Box) : Sim (denFn Try.prog env n_spec_l19Boxes [Sl.enc boxes_] []) (t_spec_l19Boxes boxes_) fun c p => release p.2 depth p.1 = some ((fun c : Bool => enc c) c) := by
  have O := Hold.nil []
  generalize hB : (⟨[], []⟩ : Base) = B at O
  clear hB
  rw [e_spec_l19Boxes]
  unfold t_spec_l19Boxes
  refine sim_bind ((tl0_spec_l19Boxes env he_spec_l02Box boxes_) ⟨rfl, O⟩) (fun qq23 r hq => ?_)
  rcases qq23 with _ | q10
  · obtain ⟨q7, z6, h4, rfl, O5⟩ := hq
    rw [e_lk0x0_spec_l19Boxes]
    refine sim_let (v := iv (((boxes_.getD []).length : Nat) : Int)) (Tab.enc h4 boxes_).len ?_
    refine sim_let (v := bv (decide ((((boxes_.getD []).length : Nat) : Int) ≤ 60))) (aBin_leq _ _) ?_
    exact sim_ret (release_plain (by rfl) _)
  · obtain ⟨q11, h8, rfl, O9⟩ := hq
    rw [e_lk0r_spec_l19Boxes]
    exact sim_ret (release_plain (by rfl) _)
theorem tt_spec_l19Boxes : PureOK Try.prog n_spec_l19Boxes (C1 (fun c : Bool => enc c) t_spec_l19Boxes) := pureC1 (Econs ok_spec_l02Box E0) mixed hb_spec_l19Boxes fun boxes_ => ts_spec_l19Boxes _ (by simp [envL]) boxes_

def s1_spec_l19Gaps (boxes_ : Sl Box) (items_ : Sl Int) (w9 : Int) : (Int × Int) → Option (Sum (Int × Int) Int) := fun (w20, w21) =>
  bif decide (w21 < w9) then
    obind (getI (items_.getD []) w21) fun a47 =>
    obind (getI (boxes_.getD []) a47) fun a51 =>
    obind (some ((fun a b : Int => max a b) w20 a51.x2)) fun c55 =>
    some (.inl (c55, wr (w21 + 1)))
  else
    some (.inr w20)
def s0_spec_l19Gaps (boxes_ : Sl Box) (items_ : Sl Int) : ((Sl Int) × Int) → Option (Sum ((Sl Int) × Int) (Sl Int)) := fun (w6, w9) =>
  bif decide (w9 < (((items_.getD []).length : Nat) : Int)) then
    obind (loopT (s1_spec_l19Gaps boxes_ items_ w9) (0, 0)) fun q24 =>
    obind (getI (items_.getD []) w9) fun a26 =>
    obind (getI (boxes_.getD []) a26) fun a30 =>
    obind (some ((fun a b : Int => max a b) 0 (wr (a30.x1 - q24)))) fun c34 =>
    obind (appO w6 ([c34] : List Int)) fun _ =>
    some (.inl ((appS w6 ([c34] : List Int)), wr (w9 + 1)))
  else
    some (.inr w6)
def t_spec_l19Gaps (boxes_ : Sl Box) (items_ : Sl Int) : Option (Sl Int) :=
  obind (loopT (s0_spec_l19Gaps boxes_ items_) ((some ([] : List Int)), 1)) fun q13 =>
  some q13

theorem tl1_spec_l19Gaps (env : Nat → Contract) {B : Base} (he_spec_l00Max : env n_spec_l00Max = .pure (T2 (fun a b : Int => max a b))) (boxes_ : Sl Box) (items_ : Sl Int) (x1 : AV) (z5 : AV) (w6 : Sl Int) (w9 : Int)  {st : Int × Int} {tm : TM} {h : Heap} (R : (fun (st : Int × Int) tm h18 => match st with | (w20, w21) => tm = [Sl.enc boxes_, Sl.enc items_, und, und, nilS, z5, iv w9, iv w20, iv w21, x1, iv w9, Sl.enc items_, iv (((items_.getD []).length : Nat) : Int), bv (decide (w9 < (((items_.getD []).length : Nat) : Int))), AV.top, AV.top, AV.top, AV.top, AV.top, AV.top, AV.top, AV.top, AV.top, AV.top, AV.top, AV.top, AV.top, AV.top, AV.top, AV.top, AV.top, AV.top, AV.top, AV.top, AV.top, AV.top, AV.top, AV.top, AV.top, AV.top, AV.top, AV.top, AV.top, AV.top, AV.top, und] ∧ Hold B h18 [(z5, obS (w6 : Sl Int))]) st tm h) : Sim (loopP hm1_spec_l19Gaps xm1_spec_l19Gaps (lb1_spec_l19Gaps env) tm h) (loopT (s1_spec_l19Gaps boxes_ items_ w9) st) (fun (q : Int) (r : Res) => match q with | q24 => ∃ (q25 : Int) (h22 : Heap), r = (.exit 2, [Sl.enc boxes_, Sl.enc items_, und, und, nilS, z5, iv w9, iv q24, iv q25, x1, iv w9, Sl.enc items_, iv (((items_.getD []).length : Nat) : Int), bv (decide (w9 < (((items_.getD []).length : Nat) : Int))), AV.top, AV.top, AV.top, AV.top, AV.top, AV.top, AV.top, AV.top, AV.top, AV.top, AV.top, AV.top, AV.top, AV.top, AV.top, AV.top, AV.top, AV.top, AV.top, AV.top, AV.top, AV.top, AV.top, AV.top, AV.top, AV.top, AV.top, AV.top, AV.top, AV.top, AV.top, und], h22) ∧ Hold B h22 [(z5, obS (w6 : Sl Int))]) := by
  refine loop_sim (Rel := fun (st : Int × Int) tm h18 => match st with | (w20, w21) => tm = [Sl.enc boxes_, Sl.enc items_, und, und, nilS, z5, iv w9, iv w20, iv w21, x1, iv w9, Sl.enc items_, iv (((items_.getD []).length : Nat) : Int), bv (decide (w9 < (((items_.getD []).length : Nat) : Int))), AV.top, AV.top, AV.top, AV.top, AV.top, AV.top, AV.top, AV.top, AV.top, AV.top, AV.top, AV.top, AV.top, AV.top, AV.top, AV.top, AV.top, AV.top, AV.top, AV.top, AV.top, AV.top, AV.top, AV.top, AV.top, AV.top, AV.top, AV.top, AV.top, AV.top, AV.top, und] ∧ Hold B h18 [(z5, obS (w6 : Sl Int))]) (fun st tm h18 R => ?_) R
  obtain ⟨w20, w21⟩ := st
  obtain ⟨rfl, O19⟩ := R
  rw [e_lb1_spec_l19Gaps]
  unfold s1_spec_l19Gaps
  dsimp only
  refine sim_let (v := bv (decide (w21 < w9))) (aBin_lss _ _) ?_
  refine sim_cond (fun c46 => ?_) (fun c46 => ?_)
  · refine sim_get (Tab.enc h18 items_) (fun m48 a47 hi49 hm50 => ?_)
    refine sim_let (v := iv a47) ((Tab.enc h18 items_).ld hm50 false 1 0) ?_
    refine sim_get (Tab.enc h18 boxes_) (fun m52 a51 hi53 hm54 => ?_)
    refine sim_let (v := elp (Sl.enc boxes_) m52 2) ((Tab.enc h18 boxes_).fld _ _ _) ?_
    refine sim_let (v := iv a51.x2) ((Tab.enc h18 boxes_).ld hm54 false 1 2) ?_
    refine sim_callV2 (t := (fun a b : Int => max a b)) he_spec_l00Max (snapD_int _ _) (snapD_int _ _) (fun c55 => ?_)
    refine sim_let (v := iv (wr (w21 + 1))) (aBin_add _ _) ?_
    exact sim_ret ⟨rfl, rfl, O19⟩
  · exact sim_ret ⟨nofun, _, _, rfl, O19⟩
theorem tl0_spec_l19Gaps (env : Nat → Contract) {B : Base} (he_spec_l00Max : env n_spec_l00Max = .pure (T2 (fun a b : Int => max a b))) (boxes_ : Sl Box) (items_ : Sl Int) (x1 : AV)  {st : (Sl Int) × Int} {tm : TM} {h : Heap} (R : (fun (st : (Sl Int) × Int) tm h7 => match st with | (w6, w9) => ∃ z5, tm = [Sl.enc boxes_, Sl.enc items_, und, und, nilS, z5, iv w9, AV.top, AV.top, x1, AV.top, AV.top, AV.top, AV.top, AV.top, AV.top, AV.top, AV.top, AV.top, AV.top, AV.top, AV.top, AV.top, AV.top, AV.top, AV.top, AV.top, AV.top, AV.top, AV.top, AV.top, AV.top, AV.top, AV.top, AV.top, AV.top, AV.top, AV.top, AV.top, AV.top, AV.top, AV.top, AV.top, AV.top, AV.top, und] ∧ Hold B h7 [(z5, obS (w6 : Sl Int))]) st tm h) : Sim (loopP hm0_spec_l19Gaps xm0_spec_l19Gaps (lb0_spec_l19Gaps env) tm h) (loopT (s0_spec_l19Gaps boxes_ items_) st) (fun (q : Sl Int) (r : Res) => match q with | q13 => ∃ (q14 : Int) (z12 : AV) (z15 : AV) (z16 : AV) (h10 : Heap), r = (.exit 0, [Sl.enc boxes_, Sl.enc items_, und, und, nilS, z12, iv q14, z15, z16, x1, AV.top, AV.top, AV.top, AV.top, AV.top, AV.top, AV.top, AV.top, AV.top, AV.top, AV.top, AV.top, AV.top, AV.top, AV.top, AV.top, AV.top, AV.top, AV.top, AV.top, AV.top, AV.top, AV.top, AV.top, AV.top, AV.top, AV.top, AV.top, AV.top, AV.top, AV.top, AV.top, AV.top, AV.top, AV.top, und], h10) ∧ Hold B h10 [(z12, obS (q13 : Sl Int))]) := by
  refine loop_sim (Rel := fun (st : (Sl Int) × Int) tm h7 => match st with | (w6, w9) => ∃ z5, tm = [Sl.enc boxes_, Sl.enc items_, und, und, nilS, z5, iv w9, AV.top, AV.top, x1, AV.top, AV.top, AV.top, AV.top, AV.top, AV.top, AV.top, AV.top, AV.top, AV.top, AV.top, AV.top, AV.top, AV.top, AV.top, AV.top, AV.top, AV.top, AV.top, AV.top, AV.top, AV.top, AV.top, AV.top, AV.top, AV.top, AV.top, AV.top, AV.top, AV.top, AV.top, AV.top, AV.top, AV.top, AV.top, und] ∧ Hold B h7 [(z5, obS (w6 : Sl Int))]) (fun st tm h7 R => ?_) R
  obtain ⟨w6, w9⟩ := st
  obtain ⟨z5, rfl, O8⟩ := R
  rw [e_lb0_spec_l19Gaps]
  unfold s0_spec_l19Gaps
  dsimp only
  refine sim_let (v := iv (((items_.getD []).length : Nat) : Int)) (Tab.enc h7 items_).len ?_
  refine sim_let (v := bv (decide (w9 < (((items_.getD []).length : Nat) : Int)))) (aBin_lss _ _) ?_
  refine sim_cond (fun c17 => ?_) (fun c17 => ?_)
  · refine sim_bind ((tl1_spec_l19Gaps env he_spec_l00Max boxes_ items_ x1 z5 w6 w9) ⟨rfl, O8⟩) (fun qq59 r hq => ?_)
    revert hq
    revert qq59
    intro q24 hq
    obtain ⟨q25, h22, rfl, O23⟩ := hq
    rw [e_lk1x2_spec_l19Gaps]
    refine sim_get (Tab.enc h22 items_) (fun m27 a26 hi28 hm29 => ?_)
    refine sim_let (v := iv a26) ((Tab.enc h22 items_).ld hm29 false 1 0) ?_
    refine sim_get (Tab.enc h22 boxes_) (fun m31 a30 hi32 hm33 => ?_)
    refine sim_let (v := elp (Sl.enc boxes_) m31 0) ((Tab.enc h22 boxes_).fld _ _ _) ?_
    refine sim_let (v := iv a30.x1) ((Tab.enc h22 boxes_).ld hm33 false 1 0) ?_
    refine sim_let (v := iv (wr (a30.x1 - q24))) (aBin_sub _ _) ?_
    refine sim_callV2 (t := (fun a b : Int => max a b)) he_spec_l00Max (snapD_int _ _) (snapD_int _ _) (fun c34 => ?_)
    refine sim_build (A := Int) O23 ([c34] : List Int) rfl (by first | rfl | simp [aFillRows, zrows]) rfl (fun x35 h36 O37 => ?_)
    replace O37 : Hold B h36 [(z5, obS (w6 : Sl Int)), (x35, obS ((some ([c34] : List Int)) : Sl Int))] := O37
    refine sim_append (A := Int) (s := w6) O37 0 ([c34] : List Int) rfl (O37.src (A := Int) (s := (some ([c34] : List Int))) 1 rfl) (by decide) (fun x40 h41 O42 => ?_)
    replace O42 : Hold B h41 [(x40, obS ((appS w6 ([c34] : List Int)) : Sl Int)), (x35, obS ((some ([c34] : List Int)) : Sl Int))] := O42
    have O44 : Hold B h41 [(x40, obS ((appS w6 ([c34] : List Int)) : Sl Int))] := O42.sel [0] (by decide) rfl
    refine sim_let (v := iv (wr (w9 + 1))) (aBin_add _ _) ?_
    exact sim_ret ⟨rfl, _, rfl, O44⟩
  · exact sim_ret ⟨nofun, _, _, _, _, _, rfl, O8⟩
theorem ts_spec_l19Gaps (env : Nat → Contract) (he_spec_l00Max : env n_spec_l00Max = .pure (T2 (fun a b : Int => max a b))) (boxes_ : Sl Box) (items_ : Sl Int) : Sim (denFn Try.prog env n_spec_l19Gaps [Sl.enc boxes_, Sl.enc items_] []) (t_spec_l19Gaps boxes_ items_) fun c p => release p.2 depth p.1 = some ((fun c : (Sl Int) => rS c) c) := by
  have O := Hold.nil []
  generalize hB : (⟨[], []⟩ : Base) = B at O
  clear hB
  rw [e_spec_l19Gaps]
  unfold t_spec_l19Gaps
  refine sim_build (A := Int) O ([] : List Int) rfl (by first | rfl | simp [aFillRows, zrows]) rfl (fun x1 h2 O3 => ?_)
  replace O3 : Hold B h2 [(x1, obS ((some ([] : List Int)) : Sl Int))] := O3
  refine sim_bind ((tl0_spec_l19Gaps env he_spec_l00Max boxes_ items_ x1) ⟨_, rfl, O3⟩) (fun qq62 r hq => ?_)
  revert hq
  revert qq62
  intro q13 hq
  obtain ⟨q14, z12, z15, z16, h10, rfl, O11⟩ := hq
  rw [e_lk0x0_spec_l19Gaps]
  exact sim_ret (O11.rel (A := Int) (s := q13) 0 rfl)
theorem tt_spec_l19Gaps : PureOK Try.prog n_spec_l19Gaps (C2 (fun c : (Sl Int) => rS c) t_spec_l19Gaps) := pureC2 (Econs ok_spec_l00Max E0) mixed hb_spec_l19Gaps fun boxes_ items_ => ts_spec_l19Gaps _ (by simp [envL]) boxes_ items_

def s0_slices_IndexFunc_impl_Box_impl_Box (p_ : Box → Option Bool) (s_ : Sl Box) : Int → Option (Sum Int (Sum Unit Int)) := fun w3 =>
  bif decide (w3 < (((s_.getD []).length : Nat) : Int)) then
    obind (getI (s_.getD []) w3) fun a13 =>
    obind (p_ a13) fun c17 =>
    bif c17 then
      some (.inr (.inr w3))
    else
      some (.inl (wr (w3 + 1)))
  else
    some (.inr (.inl ()))
def t_slices_IndexFunc_impl_Box_impl_Box (p_ : Box → Option Bool) (s_ : Sl Box) : Option Int :=
  obind (loopT (s0_slices_IndexFunc_impl_Box_impl_Box p_ s_) 0) fun qq26 => match qq26 with
  | (.inl _) =>
      some (-1)
  | (.inr q10) =>
      some q10

theorem tl0_slices_IndexFunc_impl_Box_impl_Box (env : Nat → Contract) {B : Base} {K : Type} [Cod K] {g : Nat} {caps : K → List AV} {P : K → Box → Option Bool} (hp : ∀ k (a : Box) h, Sim (aCall (env g) (AV.agg (Row.cells a) :: caps k) h) (P k a) fun b r => r = (bv b, h))  (s_ : Sl Box) (f_ : K)  {st : Int} {tm : TM} {h : Heap} (R : (fun (st : Int) tm h1 => match st with | w3 => tm = [Sl.enc s_, AV.fn g (caps f_), und, und, AV.top, AV.top, Sl.enc s_, iv (((s_.getD []).length : Nat) : Int), iv w3, AV.top, AV.top, AV.top, AV.top, AV.top, AV.top, AV.top, AV.top, AV.top, AV.top] ∧ Hold B h1 []) st tm h) : Sim (loopP hm0_slices_IndexFunc_impl_Box_impl_Box xm0_slices_IndexFunc_impl_Box_impl_Box (lb0_slices_IndexFunc_impl_Box_impl_Box env) tm h) (loopT (s0_slices_IndexFunc_impl_Box_impl_Box (P f_) s_) st) (fun (q : Sum Unit Int) (r : Res) => match q with | .inl _ => ∃ (z6 : AV) (z7 : AV) (h4 : Heap), r = (.exit 0, [Sl.enc s_, AV.fn g (caps f_), und, und, z6, z7, Sl.enc s_, iv (((s_.getD []).length : Nat) : Int), AV.top, AV.top, AV.top, AV.top, AV.top, AV.top, AV.top, AV.top, AV.top, AV.top, AV.top], h4) ∧ Hold B h4 [] | .inr q10 => ∃ (q11 : Int) (h8 : Heap), r = (.ret, [Sl.enc s_, AV.fn g (caps f_), und, und, iv q10, iv q11, Sl.enc s_, iv (((s_.getD []).length : Nat) : Int), AV.top, AV.top, AV.top, AV.top, AV.top, AV.top, AV.top, AV.top, AV.top, AV.top, AV.top], h8) ∧ Hold B h8 []) := by
  refine loop_sim (Rel := fun (st : Int) tm h1 => match st with | w3 => tm = [Sl.enc s_, AV.fn g (caps f_), und, und, AV.top, AV.top, Sl.enc s_, iv (((s_.getD []).length : Nat) : Int), iv w3, AV.top, AV.top, AV.top, AV.top, AV.top, AV.top, AV.top, AV.top, AV.top, AV.top] ∧ Hold B h1 []) (fun w3 tm h1 R => ?_) R
  obtain ⟨rfl, O2⟩ := R
  rw [e_lb0_slices_IndexFunc_impl_Box_impl_Box]
  unfold s0_slices_IndexFunc_impl_Box_impl_Box
  dsimp only
  refine sim_let (v := bv (decide (w3 < (((s_.getD []).length : Nat) : Int)))) (aBin_lss _ _) ?_
  refine sim_cond (fun c12 => ?_) (fun c12 => ?_)
  · refine sim_get (Tab.enc h1 s_) (fun m14 a13 hi15 hm16 => ?_)
    refine sim_let (v := AV.agg [iv a13.x1, iv a13.y1, iv a13.x2, iv a13.y2]) ((Tab.enc h1 s_).ld hm16 true 4 0) ?_
    refine sim_bind2 (hp f_ a13 _) (fun c17 v18 hh19 hq20 => ?_)
    cases hq20
    refine sim_cond (fun c21 => ?_) (fun c21 => ?_)
    · exact sim_ret ⟨nofun, _, _, rfl, O2⟩
    · refine sim_let (v := iv (wr (w3 + 1))) (aBin_add _ _) ?_
      exact sim_ret ⟨rfl, rfl, O2⟩
  · exact sim_ret ⟨nofun, _, _, _, rfl, O2⟩
theorem ts_slices_IndexFunc_impl_Box_impl_Box (env : Nat → Contract) {K : Type} [Cod K] {g : Nat} {caps : K → List AV} {P : K → Box → Option Bool} (hp : ∀ k (a : Box) h, Sim (aCall (env g) (AV.agg (Row.cells a) :: caps k) h) (P k a) fun b r => r = (bv b, h))  (s_ : Sl Box) (f_ : K) : Sim (denFn Try.prog env n_slices_IndexFunc_impl_Box_impl_Box [Sl.enc s_, AV.fn g (caps f_)] []) (t_slices_IndexFunc_impl_Box_impl_Box (P f_) s_) fun c p => release p.2 depth p.1 = some ((fun c : Int => enc c) c) := by
  have O := Hold.nil []
  generalize hB : (⟨[], []⟩ : Base) = B at O
  clear hB
  rw [e_slices_IndexFunc_impl_Box_impl_Box]
  unfold t_slices_IndexFunc_impl_Box_impl_Box
  refine sim_let (v := iv (((s_.getD []).length : Nat) : Int)) (Tab.enc [] s_).len ?_
  refine sim_bind ((tl0_slices_IndexFunc_impl_Box_impl_Box env hp s_ f_) ⟨rfl, O⟩) (fun qq26 r hq => ?_)
  rcases qq26 with _ | q10
  · obtain ⟨z6, z7, h4, rfl, O5⟩ := hq
    rw [e_lk0x0_slices_IndexFunc_impl_Box_impl_Box]
    exact sim_ret (release_plain (by rfl) _)
  · obtain ⟨q11, h8, rfl, O9⟩ := hq
    rw [e_lk0r_slices_IndexFunc_impl_Box_impl_Box]
    exact sim_ret (release_plain (by rfl) _)
theorem tt0_slices_IndexFunc_impl_Box_impl_Box {g : Nat} {t : Box → Option Bool} (hg : PureOK Try.prog g (C1 (fun c : Bool => enc c) t)) : PureOK Try.prog n_slices_IndexFunc_impl_Box_impl_Box (C2 (fun c : Int => enc c) (fun (q : Sl Box) (k : Clo0 g) => t_slices_IndexFunc_impl_Box_impl_Box ((fun _ : Clo0 g => t) k) q)) := pureC2 (Econs hg E0) mixed hb_slices_IndexFunc_impl_Box_impl_Box fun q k => ts_slices_IndexFunc_impl_Box_impl_Box _ (caps := fun _ => []) (P := (fun _ : Clo0 g => t)) (fun k a h => callP0 (by simp [envL]) (snapD_nr _ a rfl)) q k
theorem tt1_slices_IndexFunc_impl_Box_impl_Box {g : Nat} {X : Type} [Row X] {tp : Box → Pt X → Option Bool} (hg : PureOK Try.prog g (C2 (fun c : Bool => enc c) tp)) : PureOK Try.prog n_slices_IndexFunc_impl_Box_impl_Box (C2 (fun c : Int => enc c) (fun (q : Sl Box) (k : Clo g (Pt X)) => t_slices_IndexFunc_impl_Box_impl_Box ((fun (k : Clo g (Pt X)) a => tp a k.val) k) q)) := pureC2 (Econs hg E0) mixed hb_slices_IndexFunc_impl_Box_impl_Box fun q k => ts_slices_IndexFunc_impl_Box_impl_Box _ (caps := fun k : Clo g (Pt X) => [enc k.val]) (P := (fun (k : Clo g (Pt X)) a => tp a k.val)) (fun k a h => callP1 (by simp [envL]) (snapD_nr _ a rfl) (snapD_fptr _ _ _ _ rfl)) q k

def t_slices_ContainsFunc_impl_Box_impl_Box (p_ : Box → Option Bool) (s_ : Sl Box) : Option Bool :=
  obind (t_slices_IndexFunc_impl_Box_impl_Box p_ s_) fun c1 =>
  some (decide (0 ≤ c1))

theorem ts_slices_ContainsFunc_impl_Box_impl_Box (env : Nat → Contract) {K : Type} [Cod K] {g : Nat} {caps : K → List AV} {P : K → Box → Option Bool} (hs : ∀ k h, snapD h (AV.fn g (caps k)) = some k) (he_slices_IndexFunc_impl_Box_impl_Box : env n_slices_IndexFunc_impl_Box_impl_Box = .pure (C2 (fun c : Int => enc c) (fun (q : Sl Box) (k : K) => t_slices_IndexFunc_impl_Box_impl_Box (P k) q))) (s_ : Sl Box) (f_ : K) : Sim (denFn Try.prog env n_slices_ContainsFunc_impl_Box_impl_Box [Sl.enc s_, AV.fn g (caps f_)] []) (t_slices_ContainsFunc_impl_Box_impl_Box (P f_) s_) fun c p => release p.2 depth p.1 = some ((fun c : Bool => enc c) c) := by
  have O := Hold.nil []
  generalize hB : (⟨[], []⟩ : Base) = B at O
  clear hB
  rw [e_slices_ContainsFunc_impl_Box_impl_Box]
  unfold t_slices_ContainsFunc_impl_Box_impl_Box
  refine sim_call2 (t := fun (q : Sl Box) (k : K) => t_slices_IndexFunc_impl_Box_impl_Box (P k) q) he_slices_IndexFunc_impl_Box_impl_Box (snapD_enc _ _) (hs f_ _) (fun c1 => ?_)
  refine sim_let2 (hand_plain (by rfl) _ _) ?_
  refine sim_let (v := bv (decide (0 ≤ c1))) (aBin_geq _ _) ?_
  exact sim_ret (release_plain (by rfl) _)
theorem tt0_slices_ContainsFunc_impl_Box_impl_Box {g : Nat} {t : Box → Option Bool} (hg : PureOK Try.prog g (C1 (fun c : Bool => enc c) t)) : PureOK Try.prog n_slices_ContainsFunc_impl_Box_impl_Box (C2 (fun c : Bool => enc c) (fun (q : Sl Box) (k : Clo0 g) => t_slices_ContainsFunc_impl_Box_impl_Box ((fun _ : Clo0 g => t) k) q)) := pureC2 (Econs (tt0_slices_IndexFunc_impl_Box_impl_Box hg) E0) mixed hb_slices_ContainsFunc_impl_Box_impl_Box fun q k => ts_slices_ContainsFunc_impl_Box_impl_Box _ (caps := fun _ => []) (P := (fun _ : Clo0 g => t)) (fun k h => snapD_clo0 h g) (by simp [envL]) q k
theorem tt1_slices_ContainsFunc_impl_Box_impl_Box {g : Nat} {X : Type} [Row X] {tp : Box → Pt X → Option Bool} (hg : PureOK Try.prog g (C2 (fun c : Bool => enc c) tp)) : PureOK Try.prog n_slices_ContainsFunc_impl_Box_impl_Box (C2 (fun c : Bool => enc c) (fun (q : Sl Box) (k : Clo g (Pt X)) => t_slices_ContainsFunc_impl_Box_impl_Box ((fun (k : Clo g (Pt X)) a => tp a k.val) k) q)) := pureC2 (Econs (tt1_slices_IndexFunc_impl_Box_impl_Box hg) E0) mixed hb_slices_ContainsFunc_impl_Box_impl_Box fun q k => ts_slices_ContainsFunc_impl_Box_impl_Box _ (caps := fun k : Clo g (Pt X) => [enc k.val]) (P := (fun (k : Clo g (Pt X)) a => tp a k.val)) (fun k h => snapD_cloE h k) (by simp [envL]) q k

def t_impl_isPage (boxes_ : Sl Box) : Option Bool :=
  obind (bif decide ((((boxes_.getD []).length : Nat) : Int) ≤ 60) then (obind (t_slices_ContainsFunc_impl_Box_impl_Box (fun a => some ((fun b : Box => !validBox b) a)) boxes_) fun c2 => some (!c2)) else some false) fun c3 =>
  some (bif decide ((((boxes_.getD []).length : Nat) : Int) ≤ 60) then c3 else false)

theorem ts_impl_isPage (env : Nat → Contract) (he_slices_ContainsFunc_impl_Box_impl_Box : env n_slices_ContainsFunc_impl_Box_impl_Box = .pure (C2 (fun c : Bool => enc c) (fun (q : Sl Box) (k : Clo0 n_impl_isPage_1) => t_slices_ContainsFunc_impl_Box_impl_Box ((fun _ : Clo0 n_impl_isPage_1 => (fun a => some ((fun b : Box => !validBox b) a))) k) q))) (boxes_ : Sl Box) : Sim (denFn Try.prog env n_impl_isPage [Sl.enc boxes_] []) (t_impl_isPage boxes_) fun c p => release p.2 depth p.1 = some ((fun c : Bool => enc c) c) := by
  have O := Hold.nil []
  generalize hB : (⟨[], []⟩ : Base) = B at O
  clear hB
  rw [e_impl_isPage]
  unfold t_impl_isPage
  refine sim_let (v := iv (((boxes_.getD []).length : Nat) : Int)) (Tab.enc [] boxes_).len ?_
  refine sim_let (v := bv (decide ((((boxes_.getD []).length : Nat) : Int) ≤ 60))) (aBin_leq _ _) ?_
  refine sim_guardT (e := bv) (fun hb1 => ?_) (fun c3 => ?_)
  · refine sim_call2 (t := fun (q : Sl Box) (k : Clo0 n_impl_isPage_1) => t_slices_ContainsFunc_impl_Box_impl_Box ((fun _ : Clo0 n_impl_isPage_1 => (fun a => some ((fun b : Box => !validBox b) a))) k) q) he_slices_ContainsFunc_impl_Box_impl_Box (snapD_enc _ _) (snapD_clo0 _ _) (fun c2 => ?_)
    refine sim_let2 (hand_plain (by rfl) _ _) ?_
    refine sim_let (v := bv (!c2)) (aUn_not _) ?_
    exact sim_ret rfl
  · refine sim_let (v := bv (bif decide ((((boxes_.getD []).length : Nat) : Int) ≤ 60) then c3 else false)) (pick_b _ _ _) ?_
    exact sim_ret (release_plain (by rfl) _)
theorem tt_impl_isPage : PureOK Try.prog n_impl_isPage (C1 (fun c : Bool => enc c) t_impl_isPage) := pureC1 (Econs (tt0_slices_ContainsFunc_impl_Box_impl_Box (C1_T1 ok_impl_isPage_1)) E0) mixed hb_impl_isPage fun boxes_ => ts_impl_isPage _ (by simp [envL]) boxes_

def s0_impl_gapsOf (boxes_ : Sl Box) (items_ : Sl Int) : ((Sl Int) × Int × Int) → Option (Sum ((Sl Int) × Int × Int) (Sl Int)) := fun (w4, w7, w8) =>
  bif decide (w8 < (((items_.getD []).length : Nat) : Int)) then
    obind (getI (items_.getD []) w8) fun a17 =>
    bif decide (0 < w8) then
      obind (getI (boxes_.getD []) a17) fun a22 =>
      obind (appO w4 ([max 0 (wr (a22.x1 - w7))] : List Int)) fun _ =>
      obind (getI (boxes_.getD []) a17) fun a36 =>
      some (.inl ((appS w4 ([max 0 (wr (a22.x1 - w7))] : List Int)), max w7 a36.x2, wr (w8 + 1)))
    else
      obind (getI (boxes_.getD []) a17) fun a41 =>
      some (.inl (w4, max w7 a41.x2, wr (w8 + 1)))
  else
    some (.inr w4)
def t_impl_gapsOf (boxes_ : Sl Box) (items_ : Sl Int) : Option (Sl Int) :=
  obind (loopT (s0_impl_gapsOf boxes_ items_) ((none : Sl Int), 0, 0)) fun q12 =>
  some q12

theorem tl0_impl_gapsOf (env : Nat → Contract) {B : Base}  (boxes_ : Sl Box) (items_ : Sl Int)  {st : (Sl Int) × Int × Int} {tm : TM} {h : Heap} (R : (fun (st : (Sl Int) × Int × Int) tm h5 => match st with | (w4, w7, w8) => ∃ z3, tm = [Sl.enc boxes_, Sl.enc items_, und, und, nilS, z3, iv w7, AV.top, AV.top, Sl.enc items_, iv (((items_.getD []).length : Nat) : Int), iv w8, AV.top, AV.top, AV.top, AV.top, AV.top, AV.top, AV.top, AV.top, AV.top, AV.top, AV.top, AV.top, AV.top, AV.top, AV.top, AV.top, AV.top, AV.top, AV.top, AV.top, AV.top, AV.top, AV.top, AV.top, AV.top, und] ∧ Hold B h5 [(z3, obS (w4 : Sl Int))]) st tm h) : Sim (loopP hm0_impl_gapsOf xm0_impl_gapsOf (lb0_impl_gapsOf env) tm h) (loopT (s0_impl_gapsOf boxes_ items_) st) (fun (q : Sl Int) (r : Res) => match q with | q12 => ∃ (q13 : Int) (z11 : AV) (z14 : AV) (z15 : AV) (h9 : Heap), r = (.exit 0, [Sl.enc boxes_, Sl.enc items_, und, und, nilS, z11, iv q13, z14, z15, Sl.enc items_, iv (((items_.getD []).length : Nat) : Int), AV.top, AV.top, AV.top, AV.top, AV.top, AV.top, AV.top, AV.top, AV.top, AV.top, AV.top, AV.top, AV.top, AV.top, AV.top, AV.top, AV.top, AV.top, AV.top, AV.top, AV.top, AV.top, AV.top, AV.top, AV.top, AV.top, und], h9) ∧ Hold B h9 [(z11, obS (q12 : Sl Int))]) := by
  refine loop_sim (Rel := fun (st : (Sl Int) × Int × Int) tm h5 => match st with | (w4, w7, w8) => ∃ z3, tm = [Sl.enc boxes_, Sl.enc items_, und, und, nilS, z3, iv w7, AV.top, AV.top, Sl.enc items_, iv (((items_.getD []).length : Nat) : Int), iv w8, AV.top, AV.top, AV.top, AV.top, AV.top, AV.top, AV.top, AV.top, AV.top, AV.top, AV.top, AV.top, AV.top, AV.top, AV.top, AV.top, AV.top, AV.top, AV.top, AV.top, AV.top, AV.top, AV.top, AV.top, AV.top, und] ∧ Hold B h5 [(z3, obS (w4 : Sl Int))]) (fun st tm h5 R => ?_) R
  obtain ⟨w4, w7, w8⟩ := st
  obtain ⟨z3, rfl, O6⟩ := R
  rw [e_lb0_impl_gapsOf]
  unfold s0_impl_gapsOf
  dsimp only
  refine sim_let (v := bv (decide (w8 < (((items_.getD []).length : Nat) : Int)))) (aBin_lss _ _) ?_
  refine sim_cond (fun c16 => ?_) (fun c16 => ?_)
  · refine sim_get (Tab.enc h5 items_) (fun m18 a17 hi19 hm20 => ?_)
    refine sim_let (v := iv a17) ((Tab.enc h5 items_).ld hm20 false 1 0) ?_
    refine sim_let (v := bv (decide (0 < w8))) (aBin_gtr _ _) ?_
    refine sim_cond (fun c21 => ?_) (fun c21 => ?_)
    · refine sim_get (Tab.enc h5 boxes_) (fun m23 a22 hi24 hm25 => ?_)
      refine sim_let (v := elp (Sl.enc boxes_) m23 0) ((Tab.enc h5 boxes_).fld _ _ _) ?_
      refine sim_let (v := iv a22.x1) ((Tab.enc h5 boxes_).ld hm25 false 1 0) ?_
      refine sim_let (v := iv (wr (a22.x1 - w7))) (aBin_sub _ _) ?_
      refine sim_let (v := iv (max 0 (wr (a22.x1 - w7)))) (aFold_max _ _) ?_
      refine sim_build (A := Int) O6 ([max 0 (wr (a22.x1 - w7))] : List Int) rfl (by first | rfl | simp [aFillRows, zrows]) rfl (fun x26 h27 O28 => ?_)
      replace O28 : Hold B h27 [(z3, obS (w4 : Sl Int)), (x26, obS ((some ([max 0 (wr (a22.x1 - w7))] : List Int)) : Sl Int))] := O28
      refine sim_append (A := Int) (s := w4) O28 0 ([max 0 (wr (a22.x1 - w7))] : List Int) rfl (O28.src (A := Int) (s := (some ([max 0 (wr (a22.x1 - w7))] : List Int))) 1 rfl) (by decide) (fun x31 h32 O33 => ?_)
      replace O33 : Hold B h32 [(x31, obS ((appS w4 ([max 0 (wr (a22.x1 - w7))] : List Int)) : Sl Int)), (x26, obS ((some ([max 0 (wr (a22.x1 - w7))] : List Int)) : Sl Int))] := O33
      have O35 : Hold B h32 [(x31, obS ((appS w4 ([max 0 (wr (a22.x1 - w7))] : List Int)) : Sl Int))] := O33.sel [0] (by decide) rfl
      refine sim_get (Tab.enc h32 boxes_) (fun m37 a36 hi38 hm39 => ?_)
      refine sim_let (v := elp (Sl.enc boxes_) m37 2) ((Tab.enc h32 boxes_).fld _ _ _) ?_
      refine sim_let (v := iv a36.x2) ((Tab.enc h32 boxes_).ld hm39 false 1 2) ?_
      refine sim_let (v := iv (max w7 a36.x2)) (aFold_max _ _) ?_
      refine sim_let (v := iv (wr (w8 + 1))) (aBin_add _ _) ?_
      exact sim_ret ⟨rfl, _, rfl, O35⟩
    · refine sim_get (Tab.enc h5 boxes_) (fun m42 a41 hi43 hm44 => ?_)
      refine sim_let (v := elp (Sl.enc boxes_) m42 2) ((Tab.enc h5 boxes_).fld _ _ _) ?_
      refine sim_let (v := iv a41.x2) ((Tab.enc h5 boxes_).ld hm44 false 1 2) ?_
      refine sim_let (v := iv (max w7 a41.x2)) (aFold_max _ _) ?_
      refine sim_let (v := iv (wr (w8 + 1))) (aBin_add _ _) ?_
      exact sim_ret ⟨rfl, _, rfl, O6⟩
  · exact sim_ret ⟨nofun, _, _, _, _, _, rfl, O6⟩
theorem ts_impl_gapsOf (env : Nat → Contract)  (boxes_ : Sl Box) (items_ : Sl Int) : Sim (denFn Try.prog env n_impl_gapsOf [Sl.enc boxes_, Sl.enc items_] []) (t_impl_gapsOf boxes_ items_) fun c p => release p.2 depth p.1 = some ((fun c : (Sl Int) => rS c) c) := by
  have O := Hold.nil []
  generalize hB : (⟨[], []⟩ : Base) = B at O
  clear hB
  rw [e_impl_gapsOf]
  unfold t_impl_gapsOf
  refine sim_let (v := iv (((items_.getD []).length : Nat) : Int)) (Tab.enc [] items_).len ?_
  have O1 : Hold B [] [(nilS, obS ((none : Sl Int) : Sl Int))] := O.addnil
  refine sim_bind ((tl0_impl_gapsOf env boxes_ items_) ⟨_, rfl, O1⟩) (fun qq48 r hq => ?_)
  revert hq
  revert qq48
  intro q12 hq
  obtain ⟨q13, z11, z14, z15, h9, rfl, O10⟩ := hq
  rw [e_lk0x0_impl_gapsOf]
  exact sim_ret (O10.rel (A := Int) (s := q12) 0 rfl)
theorem tt_impl_gapsOf : PureOK Try.prog n_impl_gapsOf (C2 (fun c : (Sl Int) => rS c) t_impl_gapsOf) := pureC2 E0 mixed hb_impl_gapsOf fun boxes_ items_ => ts_impl_gapsOf _  boxes_ items_

def s0_laws_eqInt64S (a_ : Sl Int) (b_ : Sl Int) : Int → Option (Sum Int (Sum Unit Bool)) := fun w4 =>
  bif decide (w4 < (((a_.getD []).length : Nat) : Int)) then
    obind (getI (a_.getD []) w4) fun a14 =>
    obind (getI (b_.getD []) w4) fun a18 =>
    bif !decide (a14 = a18) then
      some (.inr (.inr false))
    else
      some (.inl (wr (w4 + 1)))
  else
    some (.inr (.inl ()))
def t_laws_eqInt64S (a_ : Sl Int) (b_ : Sl Int) : Option Bool :=
  bif !decide ((((a_.getD []).length : Nat) : Int) = (((b_.getD []).length : Nat) : Int)) then
    some false
  else
    obind (loopT (s0_laws_eqInt64S a_ b_) 0) fun qq27 => match qq27 with
    | (.inl _) =>
        some true
    | (.inr q11) =>
        some q11

theorem tl0_laws_eqInt64S (env : Nat → Contract) {B : Base}  (a_ : Sl Int) (b_ : Sl Int)  {st : Int} {tm : TM} {h : Heap} (R : (fun (st : Int) tm h2 => match st with | w4 => tm = [Sl.enc a_, Sl.enc b_, und, und, AV.top, iv w4, Sl.enc a_, iv (((a_.getD []).length : Nat) : Int), Sl.enc b_, iv (((b_.getD []).length : Nat) : Int), bv (!decide ((((a_.getD []).length : Nat) : Int) = (((b_.getD []).length : Nat) : Int))), AV.top, AV.top, AV.top, AV.top, AV.top, AV.top, AV.top, AV.top, AV.top, AV.top, AV.top, AV.top, AV.top, AV.top, AV.top] ∧ Hold B h2 []) st tm h) : Sim (loopP hm0_laws_eqInt64S xm0_laws_eqInt64S (lb0_laws_eqInt64S env) tm h) (loopT (s0_laws_eqInt64S a_ b_) st) (fun (q : Sum Unit Bool) (r : Res) => match q with | .inl _ => ∃ (q8 : Int) (z7 : AV) (h5 : Heap), r = (.exit 0, [Sl.enc a_, Sl.enc b_, und, und, z7, iv q8, Sl.enc a_, iv (((a_.getD []).length : Nat) : Int), Sl.enc b_, iv (((b_.getD []).length : Nat) : Int), bv (!decide ((((a_.getD []).length : Nat) : Int) = (((b_.getD []).length : Nat) : Int))), AV.top, AV.top, AV.top, AV.top, AV.top, AV.top, AV.top, AV.top, AV.top, AV.top, AV.top, AV.top, AV.top, AV.top, AV.top], h5) ∧ Hold B h5 [] | .inr q11 => ∃ (q12 : Int) (h9 : Heap), r = (.ret, [Sl.enc a_, Sl.enc b_, und, und, bv q11, iv q12, Sl.enc a_, iv (((a_.getD []).length : Nat) : Int), Sl.enc b_, iv (((b_.getD []).length : Nat) : Int), bv (!decide ((((a_.getD []).length : Nat) : Int) = (((b_.getD []).length : Nat) : Int))), AV.top, AV.top, AV.top, AV.top, AV.top, AV.top, AV.top, AV.top, AV.top, AV.top, AV.top, AV.top, AV.top, AV.top, AV.top], h9) ∧ Hold B h9 []) := by
  refine loop_sim (Rel := fun (st : Int) tm h2 => match st with | w4 => tm = [Sl.enc a_, Sl.enc b_, und, und, AV.top, iv w4, Sl.enc a_, iv (((a_.getD []).length : Nat) : Int), Sl.enc b_, iv (((b_.getD []).length : Nat) : Int), bv (!decide ((((a_.getD []).length : Nat) : Int) = (((b_.getD []).length : Nat) : Int))), AV.top, AV.top, AV.top, AV.top, AV.top, AV.top, AV.top, AV.top, AV.top, AV.top, AV.top, AV.top, AV.top, AV.top, AV.top] ∧ Hold B h2 []) (fun w4 tm h2 R => ?_) R
  obtain ⟨rfl, O3⟩ := R
  rw [e_lb0_laws_eqInt64S]
  unfold s0_laws_eqInt64S
  dsimp only
  refine sim_let (v := iv (((a_.getD []).length : Nat) : Int)) (Tab.enc h2 a_).len ?_
  refine sim_let (v := bv (decide (w4 < (((a_.getD []).length : Nat) : Int)))) (aBin_lss _ _) ?_
  refine sim_cond (fun c13 => ?_) (fun c13 => ?_)
  · refine sim_get (Tab.enc h2 a_) (fun m15 a14 hi16 hm17 => ?_)
    refine sim_let (v := iv a14) ((Tab.enc h2 a_).ld hm17 false 1 0) ?_
    refine sim_get (Tab.enc h2 b_) (fun m19 a18 hi20 hm21 => ?_)
    refine sim_let (v := iv a18) ((Tab.enc h2 b_).ld hm21 false 1 0) ?_
    refine sim_let (v := bv (!decide (a14 = a18))) (aCmp_ne _ _) ?_
    refine sim_cond (fun c22 => ?_) (fun c22 => ?_)
    · exact sim_ret ⟨nofun, _, _, rfl, O3⟩
    · refine sim_let (v := iv (wr (w4 + 1))) (aBin_add _ _) ?_
      exact sim_ret ⟨rfl, rfl, O3⟩
  · exact sim_ret ⟨nofun, _, _, _, rfl, O3⟩
theorem ts_laws_eqInt64S (env : Nat → Contract)  (a_ : Sl Int) (b_ : Sl Int) : Sim (denFn Try.prog env n_laws_eqInt64S [Sl.enc a_, Sl.enc b_] []) (t_laws_eqInt64S a_ b_) fun c p => release p.2 depth p.1 = some ((fun c : Bool => enc c) c) := by
  have O := Hold.nil []
  generalize hB : (⟨[], []⟩ : Base) = B at O
  clear hB
  rw [e_laws_eqInt64S]
  unfold t_laws_eqInt64S
  refine sim_let (v := iv (((a_.getD []).length : Nat) : Int)) (Tab.enc [] a_).len ?_
  refine sim_let (v := iv (((b_.getD []).length : Nat) : Int)) (Tab.enc [] b_).len ?_
  refine sim_let (v := bv (!decide ((((a_.getD []).length : Nat) : Int) = (((b_.getD []).length : Nat) : Int)))) (aCmp_ne _ _) ?_
  refine sim_cond (fun c1 => ?_) (fun c1 => ?_)
  · exact sim_ret (release_plain (by rfl) _)
  · refine sim_bind ((tl0_laws_eqInt64S env a_ b_) ⟨rfl, O⟩) (fun qq27 r hq => ?_)
    rcases qq27 with _ | q11
    · obtain ⟨q8, z7, h5, rfl, O6⟩ := hq
      rw [e_lk0x0_laws_eqInt64S]
      exact sim_ret (release_plain (by rfl) _)
    · obtain ⟨q12, h9, rfl, O10⟩ := hq
      rw [e_lk0r_laws_eqInt64S]
      exact sim_ret (release_plain (by rfl) _)
theorem tt_laws_eqInt64S : PureOK Try.prog n_laws_eqInt64S (C2 (fun c : Bool => enc c) t_laws_eqInt64S) := pureC2 E0 mixed hb_laws_eqInt64S fun a_ b_ => ts_laws_eqInt64S _  a_ b_

def s0_laws_eqBoxS (a_ : Sl Box) (b_ : Sl Box) : Int → Option (Sum Int (Sum Unit Bool)) := fun w4 =>
  bif decide (w4 < (((a_.getD []).length : Nat) : Int)) then
    obind (getI (a_.getD []) w4) fun a14 =>
    obind (getI (b_.getD []) w4) fun a18 =>
    obind (some ((fun a b : Box => decide (a = b)) a14 a18)) fun c22 =>
    bif !c22 then
      some (.inr (.inr false))
    else
      some (.inl (wr (w4 + 1)))
  else
    some (.inr (.inl ()))
def t_laws_eqBoxS (a_ : Sl Box) (b_ : Sl Box) : Option Bool :=
  bif !decide ((((a_.getD []).length : Nat) : Int) = (((b_.getD []).length : Nat) : Int)) then
    some false
  else
    obind (loopT (s0_laws_eqBoxS a_ b_) 0) fun qq28 => match qq28 with
    | (.inl _) =>
        some true
    | (.inr q11) =>
        some q11

theorem tl0_laws_eqBoxS (env : Nat → Contract) {B : Base} (he_laws_eqBox : env n_laws_eqBox = .pure (T2 (fun a b : Box => decide (a = b)))) (a_ : Sl Box) (b_ : Sl Box)  {st : Int} {tm : TM} {h : Heap} (R : (fun (st : Int) tm h2 => match st with | w4 => tm = [Sl.enc a_, Sl.enc b_, und, und, AV.top, iv w4, Sl.enc a_, iv (((a_.getD []).length : Nat) : Int), Sl.enc b_, iv (((b_.getD []).length : Nat) : Int), bv (!decide ((((a_.getD []).length : Nat) : Int) = (((b_.getD []).length : Nat) : Int))), AV.top, AV.top, AV.top, AV.top, AV.top, AV.top, AV.top, AV.top, AV.top, AV.top, AV.top, AV.top, AV.top, AV.top, AV.top, AV.top] ∧ Hold B h2 []) st tm h) : Sim (loopP hm0_laws_eqBoxS xm0_laws_eqBoxS (lb0_laws_eqBoxS env) tm h) (loopT (s0_laws_eqBoxS a_ b_) st) (fun (q : Sum Unit Bool) (r : Res) => match q with | .inl _ => ∃ (q8 : Int) (z7 : AV) (h5 : Heap), r = (.exit 0, [Sl.enc a_, Sl.enc b_, und, und, z7, iv q8, Sl.enc a_, iv (((a_.getD []).length : Nat) : Int), Sl.enc b_, iv (((b_.getD []).length : Nat) : Int), bv (!decide ((((a_.getD []).length : Nat) : Int) = (((b_.getD []).length : Nat) : Int))), AV.top, AV.top, AV.top, AV.top, AV.top, AV.top, AV.top, AV.top, AV.top, AV.top, AV.top, AV.top, AV.top, AV.top, AV.top, AV.top], h5) ∧ Hold B h5 [] | .inr q11 => ∃ (q12 : Int) (h9 : Heap), r = (.ret, [Sl.enc a_, Sl.enc b_, und, und, bv q11, iv q12, Sl.enc a_, iv (((a_.getD []).length : Nat) : Int), Sl.enc b_, iv (((b_.getD []).length : Nat) : Int), bv (!decide ((((a_.getD []).length : Nat) : Int) = (((b_.getD []).length : Nat) : Int))), AV.top, AV.top, AV.top, AV.top, AV.top, AV.top, AV.top, AV.top, AV.top, AV.top, AV.top, AV.top, AV.top, AV.top, AV.top, AV.top], h9) ∧ Hold B h9 []) := by
  refine loop_sim (Rel := fun (st : Int) tm h2 => match st with | w4 => tm = [Sl.enc a_, Sl.enc b_, und, und, AV.top, iv w4, Sl.enc a_, iv (((a_.getD []).length : Nat) : Int), Sl.enc b_, iv (((b_.getD []).length : Nat) : Int), bv (!decide ((((a_.getD []).length : Nat) : Int) = (((b_.getD []).length : Nat) : Int))), AV.top, AV.top, AV.top, AV.top, AV.top, AV.top, AV.top, AV.top, AV.top, AV.top, AV.top, AV.top, AV.top, AV.top, AV.top, AV.top] ∧ Hold B h2 []) (fun w4 tm h2 R => ?_) R
  obtain ⟨rfl, O3⟩ := R
  rw [e_lb0_laws_eqBoxS]
  unfold s0_laws_eqBoxS
  dsimp only
  refine sim_let (v := iv (((a_.getD []).length : Nat) : Int)) (Tab.enc h2 a_).len ?_
  refine sim_let (v := bv (decide (w4 < (((a_.getD []).length : Nat) : Int)))) (aBin_lss _ _) ?_
  refine sim_cond (fun c13 => ?_) (fun c13 => ?_)
  · refine sim_get (Tab.enc h2 a_) (fun m15 a14 hi16 hm17 => ?_)
    refine sim_let (v := AV.agg [iv a14.x1, iv a14.y1, iv a14.x2, iv a14.y2]) ((Tab.enc h2 a_).ld hm17 true 4 0) ?_
    refine sim_get (Tab.enc h2 b_) (fun m19 a18 hi20 hm21 => ?_)
    refine sim_let (v := AV.agg [iv a18.x1, iv a18.y1, iv a18.x2, iv a18.y2]) ((Tab.enc h2 b_).ld hm21 true 4 0) ?_
    refine sim_callVQ2 (t := (fun a b : Box => decide (a = b))) he_laws_eqBox (snapD_nr _ a14 rfl) (snapD_nr _ a18 rfl) (fun c22 => ?_)
    refine sim_let (v := bv (!c22)) (aUn_not _) ?_
    refine sim_cond (fun c23 => ?_) (fun c23 => ?_)
    · exact sim_ret ⟨nofun, _, _, rfl, O3⟩
    · refine sim_let (v := iv (wr (w4 + 1))) (aBin_add _ _) ?_
      exact sim_ret ⟨rfl, rfl, O3⟩
  · exact sim_ret ⟨nofun, _, _, _, rfl, O3⟩
theorem ts_laws_eqBoxS (env : Nat → Contract) (he_laws_eqBox : env n_laws_eqBox = .pure (T2 (fun a b : Box => decide (a = b)))) (a_ : Sl Box) (b_ : Sl Box) : Sim (denFn Try.prog env n_laws_eqBoxS [Sl.enc a_, Sl.enc b_] []) (t_laws_eqBoxS a_ b_) fun c p => release p.2 depth p.1 = some ((fun c : Bool => enc c) c) := by
  have O := Hold.nil []
  generalize hB : (⟨[], []⟩ : Base) = B at O
  clear hB
  rw [e_laws_eqBoxS]
  unfold t_laws_eqBoxS
  refine sim_let (v := iv (((a_.getD []).length : Nat) : Int)) (Tab.enc [] a_).len ?_
  refine sim_let (v := iv (((b_.getD []).length : Nat) : Int)) (Tab.enc [] b_).len ?_
  refine sim_let (v := bv (!decide ((((a_.getD []).length : Nat) : Int) = (((b_.getD []).length : Nat) : Int)))) (aCmp_ne _ _) ?_
  refine sim_cond (fun c1 => ?_) (fun c1 => ?_)
  · exact sim_ret (release_plain (by rfl) _)
  · refine sim_bind ((tl0_laws_eqBoxS env he_laws_eqBox a_ b_) ⟨rfl, O⟩) (fun qq28 r hq => ?_)
    rcases qq28 with _ | q11
    · obtain ⟨q8, z7, h5, rfl, O6⟩ := hq
      rw [e_lk0x0_laws_eqBoxS]
      exact sim_ret (release_plain (by rfl) _)
    · obtain ⟨q12, h9, rfl, O10⟩ := hq
      rw [e_lk0r_laws_eqBoxS]
      exact sim_ret (release_plain (by rfl) _)
theorem tt_laws_eqBoxS : PureOK Try.prog n_laws_eqBoxS (C2 (fun c : Bool => enc c) t_laws_eqBoxS) := pureC2 (Econs ok_laws_eqBox E0) mixed hb_laws_eqBoxS fun a_ b_ => ts_laws_eqBoxS _ (by simp [envL]) a_ b_

def s0_laws_heldInt64S (a_ : Sl Int) : (Int × Int) → Option (Sum (Int × Int) (Sum Int Int)) := fun (w3, w4) =>
  bif decide (w4 < (((a_.getD []).length : Nat) : Int)) then
    obind (getI (a_.getD []) w4) fun a16 =>
    bif !decide (a16 = w3) then
      some (.inr (.inr (-1)))
    else
      some (.inl (wr (w3 + 1), wr (w4 + 1)))
  else
    some (.inr (.inl w3))
def t_laws_heldInt64S (a_ : Sl Int) (k_ : Int) : Option Int :=
  obind (loopT (s0_laws_heldInt64S a_) (k_, 0)) fun qq25 => match qq25 with
  | (.inl q7) =>
      some q7
  | (.inr q13) =>
      some q13

theorem tl0_laws_heldInt64S (env : Nat → Contract) {B : Base}  (a_ : Sl Int)  {st : Int × Int} {tm : TM} {h : Heap} (R : (fun (st : Int × Int) tm h1 => match st with | (w3, w4) => tm = [Sl.enc a_, iv w3, und, und, AV.top, iv w4, AV.top, AV.top, AV.top, AV.top, AV.top, AV.top, AV.top, AV.top, AV.top, AV.top, AV.top, AV.top, AV.top, AV.top, und] ∧ Hold B h1 []) st tm h) : Sim (loopP hm0_laws_heldInt64S xm0_laws_heldInt64S (lb0_laws_heldInt64S env) tm h) (loopT (s0_laws_heldInt64S a_) st) (fun (q : Sum Int Int) (r : Res) => match q with | .inl q7 => ∃ (q9 : Int) (z8 : AV) (h5 : Heap), r = (.exit 0, [Sl.enc a_, iv q7, und, und, z8, iv q9, AV.top, AV.top, AV.top, AV.top, AV.top, AV.top, AV.top, AV.top, AV.top, AV.top, AV.top, AV.top, AV.top, AV.top, und], h5) ∧ Hold B h5 [] | .inr q13 => ∃ (q12 : Int) (q14 : Int) (h10 : Heap), r = (.ret, [Sl.enc a_, iv q12, und, und, iv q13, iv q14, AV.top, AV.top, AV.top, AV.top, AV.top, AV.top, AV.top, AV.top, AV.top, AV.top, AV.top, AV.top, AV.top, AV.top, und], h10) ∧ Hold B h10 []) := by
  refine loop_sim (Rel := fun (st : Int × Int) tm h1 => match st with | (w3, w4) => tm = [Sl.enc a_, iv w3, und, und, AV.top, iv w4, AV.top, AV.top, AV.top, AV.top, AV.top, AV.top, AV.top, AV.top, AV.top, AV.top, AV.top, AV.top, AV.top, AV.top, und] ∧ Hold B h1 []) (fun st tm h1 R => ?_) R
  obtain ⟨w3, w4⟩ := st
  obtain ⟨rfl, O2⟩ := R
  rw [e_lb0_laws_heldInt64S]
  unfold s0_laws_heldInt64S
  dsimp only
  refine sim_let (v := iv (((a_.getD []).length : Nat) : Int)) (Tab.enc h1 a_).len ?_
  refine sim_let (v := bv (decide (w4 < (((a_.getD []).length : Nat) : Int)))) (aBin_lss _ _) ?_
  refine sim_cond (fun c15 => ?_) (fun c15 => ?_)
  · refine sim_get (Tab.enc h1 a_) (fun m17 a16 hi18 hm19 => ?_)
    refine sim_let (v := iv a16) ((Tab.enc h1 a_).ld hm19 false 1 0) ?_
    refine sim_let (v := bv (!decide (a16 = w3))) (aCmp_ne _ _) ?_
    refine sim_cond (fun c20 => ?_) (fun c20 => ?_)
    · exact sim_ret ⟨nofun, _, _, _, rfl, O2⟩
    · refine sim_let (v := iv (wr (w3 + 1))) (aBin_add _ _) ?_
      refine sim_let (v := iv (wr (w4 + 1))) (aBin_add _ _) ?_
      exact sim_ret ⟨rfl, rfl, O2⟩
  · exact sim_ret ⟨nofun, _, _, _, rfl, O2⟩
theorem ts_laws_heldInt64S (env : Nat → Contract)  (a_ : Sl Int) (k_ : Int) : Sim (denFn Try.prog env n_laws_heldInt64S [Sl.enc a_, iv k_] []) (t_laws_heldInt64S a_ k_) fun c p => release p.2 depth p.1 = some ((fun c : Int => enc c) c) := by
  have O := Hold.nil []
  generalize hB : (⟨[], []⟩ : Base) = B at O
  clear hB
  rw [e_laws_heldInt64S]
  unfold t_laws_heldInt64S
  refine sim_bind ((tl0_laws_heldInt64S env a_) ⟨rfl, O⟩) (fun qq25 r hq => ?_)
  rcases qq25 with q7 | q13
  · obtain ⟨q9, z8, h5, rfl, O6⟩ := hq
    rw [e_lk0x0_laws_heldInt64S]
    exact sim_ret (release_plain (by rfl) _)
  · obtain ⟨q12, q14, h10, rfl, O11⟩ := hq
    rw [e_lk0r_laws_heldInt64S]
    exact sim_ret (release_plain (by rfl) _)
theorem tt_laws_heldInt64S : PureOK Try.prog n_laws_heldInt64S (C2 (fun c : Int => enc c) t_laws_heldInt64S) := pureC2 E0 mixed hb_laws_heldInt64S fun a_ k_ => ts_laws_heldInt64S _  a_ k_

def t_spec_l19Gap (gap_ : Int) : Option Bool :=
  obind (some (within gap_ 0 4095)) fun c1 =>
  some c1

theorem ts_spec_l19Gap (env : Nat → Contract) (he_spec_l00In : env n_spec_l00In = .pure (T3 within)) (gap_ : Int) : Sim (denFn Try.prog env n_spec_l19Gap [iv gap_] []) (t_spec_l19Gap gap_) fun c p => release p.2 depth p.1 = some ((fun c : Bool => enc c) c) := by
  have O := Hold.nil []
  generalize hB : (⟨[], []⟩ : Base) = B at O
  clear hB
  rw [e_spec_l19Gap]
  unfold t_spec_l19Gap
  refine sim_callV3 (t := within) he_spec_l00In (snapD_int _ _) (snapD_int _ _) (snapD_int _ _) (fun c1 => ?_)
  exact sim_ret (release_plain (by rfl) _)
theorem tt_spec_l19Gap : PureOK Try.prog n_spec_l19Gap (C1 (fun c : Bool => enc c) t_spec_l19Gap) := pureC1 (Econs ok_spec_l00In E0) mixed hb_spec_l19Gap fun gap_ => ts_spec_l19Gap _ (by simp [envL]) gap_

def s0_spec_l19Words (items_ : Sl Int) (gap_ : Int) (c5 : (Sl Int)) : ((Sl (Sl Int)) × Int) → Option (Sum ((Sl (Sl Int)) × Int) (Sl (Sl Int))) := fun (w11, w16) =>
  bif decide (w16 < (((items_.getD []).length : Nat) : Int)) then
    obind (bif decide (w16 = 0) then some false else (obind (getI (c5.getD []) (wr (w16 - 1))) fun a27 => some (decide (gap_ < a27)))) fun c31 =>
    bif (bif decide (w16 = 0) then true else c31) then
      obind (appO w11 ([(some ([] : List Int))] : List (Sl Int))) fun _ =>
      obind (getI ((appS w11 ([(some ([] : List Int))] : List (Sl Int))).getD []) (wr (((((appS w11 ([(some ([] : List Int))] : List (Sl Int))).getD []).length : Nat) : Int) - 1))) fun a49 =>
      obind (getI (items_.getD []) w16) fun a55 =>
      obind (appO a49 ([a55] : List Int)) fun _ =>
      some (.inl ((setS (appS w11 ([(some ([] : List Int))] : List (Sl Int))) (wr (((((appS w11 ([(some ([] : List Int))] : List (Sl Int))).getD []).length : Nat) : Int) - 1)) (appS a49 ([a55] : List Int))), wr (w16 + 1)))
    else
      obind (getI (w11.getD []) (wr ((((w11.getD []).length : Nat) : Int) - 1))) fun a71 =>
      obind (getI (items_.getD []) w16) fun a77 =>
      obind (appO a71 ([a77] : List Int)) fun _ =>
      some (.inl ((setS w11 (wr ((((w11.getD []).length : Nat) : Int) - 1)) (appS a71 ([a77] : List Int))), wr (w16 + 1)))
  else
    some (.inr w11)
def t_spec_l19Words (boxes_ : Sl Box) (items_ : Sl Int) (gap_ : Int) : Option (Sl (Sl Int)) :=
  obind (t_spec_l19Gaps boxes_ items_) fun c5 =>
  obind (loopT (s0_spec_l19Words items_ gap_ c5) ((some ([] : List (Sl Int))), 0)) fun q20 =>
  some q20

theorem tl0_spec_l19Words (env : Nat → Contract) {B : Base} (he_spec_l19Gaps : env n_spec_l19Gaps = .pure (C2 (fun c : (Sl Int) => rS c) t_spec_l19Gaps)) (boxes_ : Sl Box) (items_ : Sl Int) (gap_ : Int) (x1 : AV) (c5 : (Sl Int)) (x7 : AV)  {st : (Sl (Sl Int)) × Int} {tm : TM} {h : Heap} (R : (fun (st : (Sl (Sl Int)) × Int) tm h14 => match st with | (w11, w16) => ∃ z10, ∃ ps12 : PS (Sl Int), tm = [Sl.enc boxes_, Sl.enc items_, iv gap_, und, und, und, nilS, z10, x7, iv w16, x1, Sl.enc boxes_, Sl.enc items_, x7, AV.top, AV.top, AV.top, AV.top, AV.top, AV.top, AV.top, AV.top, AV.top, AV.top, AV.top, AV.top, AV.top, AV.top, AV.top, AV.top, AV.top, AV.top, AV.top, AV.top, AV.top, AV.top, AV.top, AV.top, AV.top, AV.top, AV.top, AV.top, AV.top, AV.top, AV.top, AV.top, AV.top, AV.top, AV.top, AV.top, AV.top, AV.top, und] ∧ pj ps12 = w11 ∧ Hold B h14 ([(x7, obS (c5 : Sl Int))] ++ D2 (A := (Sl Int)) z10 ps12)) st tm h) : Sim (loopP hm0_spec_l19Words xm0_spec_l19Words (lb0_spec_l19Words env) tm h) (loopT (s0_spec_l19Words items_ gap_ c5) st) (fun (q : Sl (Sl Int)) (r : Res) => match q with | q20 => ∃ (q23 : Int) (z19 : AV) (ps21 : PS (Sl Int)) (h17 : Heap), r = (.exit 0, [Sl.enc boxes_, Sl.enc items_, iv gap_, und, und, und, nilS, z19, x7, iv q23, x1, Sl.enc boxes_, Sl.enc items_, x7, AV.top, AV.top, AV.top, AV.top, AV.top, AV.top, AV.top, AV.top, AV.top, AV.top, AV.top, AV.top, AV.top, AV.top, AV.top, AV.top, AV.top, AV.top, AV.top, AV.top, AV.top, AV.top, AV.top, AV.top, AV.top, AV.top, AV.top, AV.top, AV.top, AV.top, AV.top, AV.top, AV.top, AV.top, AV.top, AV.top, AV.top, AV.top, und], h17) ∧ pj ps21 = q20 ∧ Hold B h17 ([(x7, obS (c5 : Sl Int))] ++ D2 (A := (Sl Int)) z19 ps21)) := by
  refine loop_sim (Rel := fun (st : (Sl (Sl Int)) × Int) tm h14 => match st with | (w11, w16) => ∃ z10, ∃ ps12 : PS (Sl Int), tm = [Sl.enc boxes_, Sl.enc items_, iv gap_, und, und, und, nilS, z10, x7, iv w16, x1, Sl.enc boxes_, Sl.enc items_, x7, AV.top, AV.top, AV.top, AV.top, AV.top, AV.top, AV.top, AV.top, AV.top, AV.top, AV.top, AV.top, AV.top, AV.top, AV.top, AV.top, AV.top, AV.top, AV.top, AV.top, AV.top, AV.top, AV.top, AV.top, AV.top, AV.top, AV.top, AV.top, AV.top, AV.top, AV.top, AV.top, AV.top, AV.top, AV.top, AV.top, AV.top, AV.top, und] ∧ pj ps12 = w11 ∧ Hold B h14 ([(x7, obS (c5 : Sl Int))] ++ D2 (A := (Sl Int)) z10 ps12)) (fun st tm h14 R => ?_) R
  obtain ⟨w11, w16⟩ := st
  obtain ⟨z10, ps12, rfl, hp13, O15⟩ := R
  rw [e_lb0_spec_l19Words]
  unfold s0_spec_l19Words
  dsimp only
  refine sim_let (v := iv (((items_.getD []).length : Nat) : Int)) (Tab.enc h14 items_).len ?_
  refine sim_let (v := bv (decide (w16 < (((items_.getD []).length : Nat) : Int)))) (aBin_lss _ _) ?_
  refine sim_cond (fun c25 => ?_) (fun c25 => ?_)
  · refine sim_let (v := bv (decide (w16 = 0))) (aCmp_eq _ _) ?_
    refine sim_guardF (e := bv) (fun hb26 => ?_) (fun c31 => ?_)
    · refine sim_let (v := iv (wr (w16 - 1))) (aBin_sub _ _) ?_
      refine sim_get (O15.tab (A := Int) (s := c5) 0 rfl) (fun m28 a27 hi29 hm30 => ?_)
      refine sim_let (v := iv a27) ((O15.tab (A := Int) (s := c5) 0 rfl).ld hm30 false 1 0) ?_
      refine sim_let (v := bv (decide (gap_ < a27))) (aBin_gtr _ _) ?_
      exact sim_ret rfl
    · refine sim_let (v := bv (bif decide (w16 = 0) then true else c31)) (pick_b' _ _ _) ?_
      refine sim_cond (fun c32 => ?_) (fun c32 => ?_)
      · refine sim_build (A := Int) O15 ([] : List Int) rfl (by first | rfl | simp [aFillRows, zrows]) rfl (fun x33 h34 O35 => ?_)
        replace O35 : Hold B h34 ([(x7, obS (c5 : Sl Int)), (x33, obS ((some ([] : List Int)) : Sl Int))] ++ D2 (A := (Sl Int)) z10 ps12) := Hold.rot O35
        refine sim_buildRaw O35 [[x33]] 1 rfl (by first | rfl | simp [aFillRows, zrows, (O35.one (A := Int) (s := (some ([] : List Int))) 1 rfl).1, (O35.one (A := Int) (s := (some ([] : List Int))) 1 rfl).2]) rfl (fun x37 h38 O39 => ?_)
        replace O39 : Hold B h38 ([(x7, obS (c5 : Sl Int)), (x33, obS ((some ([] : List Int)) : Sl Int)), (x37, .sl 1 [[x33]])] ++ D2 (A := (Sl Int)) z10 ps12) := Hold.rot O39
        have O41 : Hold B h38 ([(x7, obS (c5 : Sl Int)), (x33, obS ((some ([] : List Int)) : Sl Int)), (x37, .sl 1 [[x33]])] ++ D2 (A := (Sl Int)) z10 ps12) := O39.selD [0, 1, 2] (by decide) rfl
        refine sim_push (l := [(x7, obS (c5 : Sl Int))]) (a := (some ([] : List Int))) (y := x33) (x := z10) (ps := ps12) O41 hp13 (by decide) (fun x42 ps45 h43 hp46 hm47 O44 => ?_)
        refine sim_let (v := iv ((((appS w11 ([(some ([] : List Int))] : List (Sl Int))).getD []).length : Nat) : Int)) (D2.lenS (l := [(x7, obS (c5 : Sl Int))]) (x := x42) (ps := ps45) (A := (Sl Int)) O44 hp46) ?_
        refine sim_let (v := iv (wr (((((appS w11 ([(some ([] : List Int))] : List (Sl Int))).getD []).length : Nat) : Int) - 1))) (aBin_sub _ _) ?_
        refine sim_let (v := iv ((((appS w11 ([(some ([] : List Int))] : List (Sl Int))).getD []).length : Nat) : Int)) (D2.lenS (l := [(x7, obS (c5 : Sl Int))]) (x := x42) (ps := ps45) (A := (Sl Int)) O44 hp46) ?_
        refine sim_let (v := iv (wr (((((appS w11 ([(some ([] : List Int))] : List (Sl Int))).getD []).length : Nat) : Int) - 1))) (aBin_sub _ _) ?_
        refine sim_getN (l := [(x7, obS (c5 : Sl Int))]) (x := x42) (ps := ps45) (A := (Sl Int)) O44 hp46 (fun m50 a49 x53 hi51 hm52 hg54 => ?_)
        refine sim_let (v := x53) (D2.ld (l := [(x7, obS (c5 : Sl Int))]) (x := x42) (ps := ps45) (A := (Sl Int)) O44 hm52 false 1 0) ?_
        refine sim_get (Tab.enc h43 items_) (fun m56 a55 hi57 hm58 => ?_)
        refine sim_let (v := iv a55) ((Tab.enc h43 items_).ld hm58 false 1 0) ?_
        refine sim_build (A := Int) O44 ([a55] : List Int) rfl (by first | rfl | simp [aFillRows, zrows]) rfl (fun x59 h60 O61 => ?_)
        replace O61 : Hold B h60 ([(x7, obS (c5 : Sl Int)), (x59, obS ((some ([a55] : List Int)) : Sl Int))] ++ D2 (A := (Sl Int)) x42 ps45) := Hold.rot O61
        refine sim_appRow (bytes := 8) (C := Int) (l := [(x7, obS (c5 : Sl Int)), (x59, obS ((some ([a55] : List Int)) : Sl Int))]) (x := x42) (ps := ps45) O61 hp46 hi51 hm52 ([a55] : List Int) (O61.src (A := Int) (s := (some ([a55] : List Int))) 1 rfl) (by decide) (fun v69 v70 ps65 h63 hp66 O64 => ?_)
        replace O64 : Hold B h63 ([(x7, obS (c5 : Sl Int)), (x59, obS ((some ([a55] : List Int)) : Sl Int))] ++ D2 (A := (Sl Int)) x42 ps65) := O64
        have O67 : Hold B h63 ([(x7, obS (c5 : Sl Int))] ++ D2 (A := (Sl Int)) x42 ps65) := O64.selD [0] (by decide) rfl
        refine sim_let (v := iv (wr (w16 + 1))) (aBin_add _ _) ?_
        exact sim_ret ⟨rfl, _, _, rfl, hp66, O67⟩
      · refine sim_let (v := iv (((w11.getD []).length : Nat) : Int)) (D2.lenS (l := [(x7, obS (c5 : Sl Int))]) (x := z10) (ps := ps12) (A := (Sl Int)) O15 hp13) ?_
        refine sim_let (v := iv (wr ((((w11.getD []).length : Nat) : Int) - 1))) (aBin_sub _ _) ?_
        refine sim_let (v := iv (((w11.getD []).length : Nat) : Int)) (D2.lenS (l := [(x7, obS (c5 : Sl Int))]) (x := z10) (ps := ps12) (A := (Sl Int)) O15 hp13) ?_
        refine sim_let (v := iv (wr ((((w11.getD []).length : Nat) : Int) - 1))) (aBin_sub _ _) ?_
        refine sim_getN (l := [(x7, obS (c5 : Sl Int))]) (x := z10) (ps := ps12) (A := (Sl Int)) O15 hp13 (fun m72 a71 x75 hi73 hm74 hg76 => ?_)
        refine sim_let (v := x75) (D2.ld (l := [(x7, obS (c5 : Sl Int))]) (x := z10) (ps := ps12) (A := (Sl Int)) O15 hm74 false 1 0) ?_
        refine sim_get (Tab.enc h14 items_) (fun m78 a77 hi79 hm80 => ?_)
        refine sim_let (v := iv a77) ((Tab.enc h14 items_).ld hm80 false 1 0) ?_
        refine sim_build (A := Int) O15 ([a77] : List Int) rfl (by first | rfl | simp [aFillRows, zrows]) rfl (fun x81 h82 O83 => ?_)
        replace O83 : Hold B h82 ([(x7, obS (c5 : Sl Int)), (x81, obS ((some ([a77] : List Int)) : Sl Int))] ++ D2 (A := (Sl Int)) z10 ps12) := Hold.rot O83
        refine sim_appRow (bytes := 8) (C := Int) (l := [(x7, obS (c5 : Sl Int)), (x81, obS ((some ([a77] : List Int)) : Sl Int))]) (x := z10) (ps := ps12) O83 hp13 hi73 hm74 ([a77] : List Int) (O83.src (A := Int) (s := (some ([a77] : List Int))) 1 rfl) (by decide) (fun v91 v92 ps87 h85 hp88 O86 => ?_)
        replace O86 : Hold B h85 ([(x7, obS (c5 : Sl Int)), (x81, obS ((some ([a77] : List Int)) : Sl Int))] ++ D2 (A := (Sl Int)) z10 ps87) := O86
        have O89 : Hold B h85 ([(x7, obS (c5 : Sl Int))] ++ D2 (A := (Sl Int)) z10 ps87) := O86.selD [0] (by decide) rfl
        refine sim_let (v := iv (wr (w16 + 1))) (aBin_add _ _) ?_
        exact sim_ret ⟨rfl, _, _, rfl, hp88, O89⟩
  · exact sim_ret ⟨nofun, _, _, _, _, rfl, hp13, O15⟩
theorem ts_spec_l19Words (env : Nat → Contract) (he_spec_l19Gaps : env n_spec_l19Gaps = .pure (C2 (fun c : (Sl Int) => rS c) t_spec_l19Gaps)) (boxes_ : Sl Box) (items_ : Sl Int) (gap_ : Int) : Sim (denFn Try.prog env n_spec_l19Words [Sl.enc boxes_, Sl.enc items_, iv gap_] []) (t_spec_l19Words boxes_ items_ gap_) fun c p => release p.2 depth p.1 = some ((fun c : (Sl (Sl Int)) => rD c) c) := by
  have O := Hold.nil []
  generalize hB : (⟨[], []⟩ : Base) = B at O
  clear hB
  rw [e_spec_l19Words]
  unfold t_spec_l19Words
  refine sim_buildRaw O [] 1 rfl rfl rfl (fun x1 h2 O3 => ?_)
  replace O3 : Hold B h2 ([] ++ D2 (A := (Sl Int)) x1 (some [] : PS (Sl Int))) := O3
  refine sim_call2 he_spec_l19Gaps (snapD_enc _ _) (snapD_enc _ _) (fun c5 => ?_)
  refine sim_hand (A := Int) O3 (fun x7 h8 O9 => ?_)
  replace O9 : Hold B h8 ([(x7, obS (c5 : Sl Int))] ++ D2 (A := (Sl Int)) x1 (some [] : PS (Sl Int))) := Hold.rot O9
  refine sim_bind ((tl0_spec_l19Words env he_spec_l19Gaps boxes_ items_ gap_ x1 c5 x7) ⟨_, _, rfl, (rfl : pj (some [] : PS (Sl Int)) = (some ([] : List (Sl Int)))), O9⟩) (fun qq95 r hq => ?_)
  revert hq
  revert qq95
  intro q20 hq
  obtain ⟨q23, z19, ps21, h17, rfl, hp22, O18⟩ := hq
  rw [e_lk0x0_spec_l19Words]
  have O24 : Hold B h17 ([] ++ D2 (A := (Sl Int)) z19 ps21) := O18.selD [] (by decide) rfl
  exact sim_ret (release_of (by simp only [ids_tup, ids_aggD, ids_agg, ids_iv, ids_bv, ids_sv, ids_bt, ids_nilS, ids_enc, D2.ids8 (l := []) (x := z19) (ps := ps21) (A := (Sl Int)) O24, List.map_append, List.map_nil, List.flatMap_cons, List.flatMap_nil, List.append_nil, List.nil_append]; simpa only [List.flatMap_cons, List.flatMap_nil, List.append_nil, List.nil_append] using O24.nd2) (by simp only [rel_tup, rel_aggD, rel_agg, rel_iv, rel_bv, rel_sv, rel_bt, rel_nilS, rel_enc, D2.rel8 (l := []) (x := z19) (ps := ps21) (A := (Sl Int)) O24 hp22, omapc, omapn, obind_sm] <;> rfl))
theorem tt_spec_l19Words : PureOK Try.prog n_spec_l19Words (C3 (fun c : (Sl (Sl Int)) => rD c) t_spec_l19Words) := pureC3 (Econs tt_spec_l19Gaps E0) mixed hb_spec_l19Words fun boxes_ items_ gap_ => ts_spec_l19Words _ (by simp [envL]) boxes_ items_ gap_

def t_spec_WordsOfLine (boxes_ : Sl Box) (items_ : Sl Int) (gap_ : Int) : Option ((Sl (Sl Int)) × Int) :=
  obind (t_spec_l19Boxes boxes_) fun c1 =>
  bif !c1 then
    some ((none : Sl (Sl Int)), 1)
  else
    obind (t_spec_l19Items boxes_ items_) fun c3 =>
    obind (bif !c3 then some false else (obind (t_spec_l19Gap gap_) fun c5 => some (!c5))) fun c6 =>
    bif (bif !c3 then true else c6) then
      some ((none : Sl (Sl Int)), 2)
    else
      obind (t_spec_l19Words boxes_ items_ gap_) fun c8 =>
      some (c8, 0)

theorem ts_spec_WordsOfLine (env : Nat → Contract) (he_spec_l19Boxes : env n_spec_l19Boxes = .pure (C1 (fun c : Bool => enc c) t_spec_l19Boxes)) (he_spec_l19Gap : env n_spec_l19Gap = .pure (C1 (fun c : Bool => enc c) t_spec_l19Gap)) (he_spec_l19Items : env n_spec_l19Items = .pure (C2 (fun c : Bool => enc c) t_spec_l19Items)) (he_spec_l19Words : env n_spec_l19Words = .pure (C3 (fun c : (Sl (Sl Int)) => rD c) t_spec_l19Words)) (boxes_ : Sl Box) (items_ : Sl Int) (gap_ : Int) : Sim (denFn Try.prog env n_spec_WordsOfLine [Sl.enc boxes_, Sl.enc items_, iv gap_] []) (t_spec_WordsOfLine boxes_ items_ gap_) fun c p => release p.2 depth p.1 = some ((fun c : (Sl (Sl Int)) × Int => AV.tup [rD c.1, enc c.2]) c) := by
  have O := Hold.nil []
  generalize hB : (⟨[], []⟩ : Base) = B at O
  clear hB
  rw [e_spec_WordsOfLine]
  unfold t_spec_WordsOfLine
  refine sim_call1 he_spec_l19Boxes (snapD_enc _ _) (fun c1 => ?_)
  refine sim_let2 (hand_plain (by rfl) _ _) ?_
  refine sim_let (v := bv (!c1)) (aUn_not _) ?_
  refine sim_cond (fun c2 => ?_) (fun c2 => ?_)
  · exact sim_ret (release_plain (by rfl) _)
  · refine sim_call2 he_spec_l19Items (snapD_enc _ _) (snapD_enc _ _) (fun c3 => ?_)
    refine sim_let2 (hand_plain (by rfl) _ _) ?_
    refine sim_let (v := bv (!c3)) (aUn_not _) ?_
    refine sim_guardF (e := bv) (fun hb4 => ?_) (fun c6 => ?_)
    · refine sim_call1 he_spec_l19Gap (snapD_int _ _) (fun c5 => ?_)
      refine sim_let2 (hand_plain (by rfl) _ _) ?_
      refine sim_let (v := bv (!c5)) (aUn_not _) ?_
      exact sim_ret rfl
    · refine sim_let (v := bv (bif !c3 then true else c6)) (pick_b' _ _ _) ?_
      refine sim_cond (fun c7 => ?_) (fun c7 => ?_)
      · exact sim_ret (release_plain (by rfl) _)
      · refine sim_call3 he_spec_l19Words (snapD_enc _ _) (snapD_enc _ _) (snapD_int _ _) (fun c8 => ?_)
        refine sim_handN (l := []) (A := (Sl Int)) O (fun x10 ps13 h11 hp14 O12 => ?_)
        have O15 : Hold B h11 ([] ++ D2 (A := (Sl Int)) x10 ps13) := O12.selD [] (by decide) rfl
        exact sim_ret (release_of (by simp only [ids_tup, ids_aggD, ids_agg, ids_iv, ids_bv, ids_sv, ids_bt, ids_nilS, ids_enc, D2.idsN (l := []) (x := x10) (ps := ps13) (A := (Sl Int)) O15, List.map_append, List.map_nil, List.flatMap_cons, List.flatMap_nil, List.append_nil, List.nil_append]; simpa only [List.flatMap_cons, List.flatMap_nil, List.append_nil, List.nil_append] using O15.nd2) (by simp only [rel_tup, rel_aggD, rel_agg, rel_iv, rel_bv, rel_sv, rel_bt, rel_nilS, rel_enc, D2.relN (l := []) (x := x10) (ps := ps13) (A := (Sl Int)) O15 hp14, omapc, omapn, obind_sm] <;> rfl))
theorem tt_spec_WordsOfLine : PureOK Try.prog n_spec_WordsOfLine (C3 (fun c : (Sl (Sl Int)) × Int => AV.tup [rD c.1, enc c.2]) t_spec_WordsOfLine) := pureC3 (Econs tt_spec_l19Boxes (Econs tt_spec_l19Gap (Econs tt_spec_l19Items (Econs tt_spec_l19Words E0)))) mixed hb_spec_WordsOfLine fun boxes_ items_ gap_ => ts_spec_WordsOfLine _ (by simp [envL]) (by simp [envL]) (by simp [envL]) (by simp [envL]) boxes_ items_ gap_

def t_impl_isGap (n_ : Int) : Option Bool :=
  obind (some (within n_ 0 4095)) fun c1 =>
  some c1

theorem ts_impl_isGap (env : Nat → Contract) (he_impl_within : env n_impl_within = .pure (T3 within)) (n_ : Int) : Sim (denFn Try.prog env n_impl_isGap [iv n_] []) (t_impl_isGap n_) fun c p => release p.2 depth p.1 = some ((fun c : Bool => enc c) c) := by
  have O := Hold.nil []
  generalize hB : (⟨[], []⟩ : Base) = B at O
  clear hB
  rw [e_impl_isGap]
  unfold t_impl_isGap
  refine sim_callV3 (t := within) he_impl_within (snapD_int _ _) (snapD_int _ _) (snapD_int _ _) (fun c1 => ?_)
  exact sim_ret (release_plain (by rfl) _)
theorem tt_impl_isGap : PureOK Try.prog n_impl_isGap (C1 (fun c : Bool => enc c) t_impl_isGap) := pureC1 (Econs ok_impl_within E0) mixed hb_impl_isGap fun n_ => ts_impl_isGap _ (by simp [envL]) n_

def s0_impl_wordsOfLine (items_ : Sl Int) (gap_ : Int) (c1 : (Sl Int)) : ((Sl (Sl Int)) × Int) → Option (Sum ((Sl (Sl Int)) × Int) (Sl (Sl Int))) := fun (w9, w14) =>
  bif decide (w14 < (((items_.getD []).length : Nat) : Int)) then
    obind (getI (items_.getD []) w14) fun a25 =>
    obind (bif decide (w14 = 0) then some false else (obind (getI (c1.getD []) (wr (w14 - 1))) fun a30 => some (decide (gap_ < a30)))) fun c34 =>
    bif (bif decide (w14 = 0) then true else c34) then
      obind (appO w9 ([(none : Sl Int)] : List (Sl Int))) fun _ =>
      obind (getI ((appS w9 ([(none : Sl Int)] : List (Sl Int))).getD []) (wr (((((appS w9 ([(none : Sl Int)] : List (Sl Int))).getD []).length : Nat) : Int) - 1))) fun a50 =>
      obind (appO a50 ([a25] : List Int)) fun _ =>
      some (.inl ((setS (appS w9 ([(none : Sl Int)] : List (Sl Int))) (wr (((((appS w9 ([(none : Sl Int)] : List (Sl Int))).getD []).length : Nat) : Int) - 1)) (appS a50 ([a25] : List Int))), wr (w14 + 1)))
    else
      obind (getI (w9.getD []) (wr ((((w9.getD []).length : Nat) : Int) - 1))) fun a68 =>
      obind (appO a68 ([a25] : List Int)) fun _ =>
      some (.inl ((setS w9 (wr ((((w9.getD []).length : Nat) : Int) - 1)) (appS a68 ([a25] : List Int))), wr (w14 + 1)))
  else
    some (.inr w9)
def t_impl_wordsOfLine (boxes_ : Sl Box) (items_ : Sl Int) (gap_ : Int) : Option (Sl (Sl Int)) :=
  obind (t_impl_gapsOf boxes_ items_) fun c1 =>
  obind (loopT (s0_impl_wordsOfLine items_ gap_ c1) ((none : Sl (Sl Int)), 0)) fun q18 =>
  some q18

theorem tl0_impl_wordsOfLine (env : Nat → Contract) {B : Base} (he_impl_gapsOf : env n_impl_gapsOf = .pure (C2 (fun c : (Sl Int) => rS c) t_impl_gapsOf)) (boxes_ : Sl Box) (items_ : Sl Int) (gap_ : Int) (c1 : (Sl Int)) (x3 : AV)  {st : (Sl (Sl Int)) × Int} {tm : TM} {h : Heap} (R : (fun (st : (Sl (Sl Int)) × Int) tm h12 => match st with | (w9, w14) => ∃ z8, ∃ ps10 : PS (Sl Int), tm = [Sl.enc boxes_, Sl.enc items_, iv gap_, und, und, und, nilS, x3, z8, AV.top, AV.top, Sl.enc boxes_, Sl.enc items_, x3, Sl.enc items_, iv (((items_.getD []).length : Nat) : Int), iv w14, AV.top, AV.top, AV.top, AV.top, AV.top, AV.top, AV.top, AV.top, AV.top, AV.top, AV.top, AV.top, AV.top, AV.top, AV.top, AV.top, AV.top, AV.top, AV.top, AV.top, AV.top, AV.top, AV.top, AV.top, AV.top, AV.top, AV.top, AV.top, AV.top, AV.top, AV.top, AV.top, AV.top, und] ∧ pj ps10 = w9 ∧ Hold B h12 ([(x3, obS (c1 : Sl Int))] ++ D2 (A := (Sl Int)) z8 ps10)) st tm h) : Sim (loopP hm0_impl_wordsOfLine xm0_impl_wordsOfLine (lb0_impl_wordsOfLine env) tm h) (loopT (s0_impl_wordsOfLine items_ gap_ c1) st) (fun (q : Sl (Sl Int)) (r : Res) => match q with | q18 => ∃ (z17 : AV) (z21 : AV) (z22 : AV) (ps19 : PS (Sl Int)) (h15 : Heap), r = (.exit 0, [Sl.enc boxes_, Sl.enc items_, iv gap_, und, und, und, nilS, x3, z17, z21, z22, Sl.enc boxes_, Sl.enc items_, x3, Sl.enc items_, iv (((items_.getD []).length : Nat) : Int), AV.top, AV.top, AV.top, AV.top, AV.top, AV.top, AV.top, AV.top, AV.top, AV.top, AV.top, AV.top, AV.top, AV.top, AV.top, AV.top, AV.top, AV.top, AV.top, AV.top, AV.top, AV.top, AV.top, AV.top, AV.top, AV.top, AV.top, AV.top, AV.top, AV.top, AV.top, AV.top, AV.top, AV.top, und], h15) ∧ pj ps19 = q18 ∧ Hold B h15 ([(x3, obS (c1 : Sl Int))] ++ D2 (A := (Sl Int)) z17 ps19)) := by
  refine loop_sim (Rel := fun (st : (Sl (Sl Int)) × Int) tm h12 => match st with | (w9, w14) => ∃ z8, ∃ ps10 : PS (Sl Int), tm = [Sl.enc boxes_, Sl.enc items_, iv gap_, und, und, und, nilS, x3, z8, AV.top, AV.top, Sl.enc boxes_, Sl.enc items_, x3, Sl.enc items_, iv (((items_.getD []).length : Nat) : Int), iv w14, AV.top, AV.top, AV.top, AV.top, AV.top, AV.top, AV.top, AV.top, AV.top, AV.top, AV.top, AV.top, AV.top, AV.top, AV.top, AV.top, AV.top, AV.top, AV.top, AV.top, AV.top, AV.top, AV.top, AV.top, AV.top, AV.top, AV.top, AV.top, AV.top, AV.top, AV.top, AV.top, AV.top, und] ∧ pj ps10 = w9 ∧ Hold B h12 ([(x3, obS (c1 : Sl Int))] ++ D2 (A := (Sl Int)) z8 ps10)) (fun st tm h12 R => ?_) R
  obtain ⟨w9, w14⟩ := st
  obtain ⟨z8, ps10, rfl, hp11, O13⟩ := R
  rw [e_lb0_impl_wordsOfLine]
  unfold s0_impl_wordsOfLine
  dsimp only
  refine sim_let (v := bv (decide (w14 < (((items_.getD []).length : Nat) : Int)))) (aBin_lss _ _) ?_
  refine sim_cond (fun c24 => ?_) (fun c24 => ?_)
  · refine sim_get (Tab.enc h12 items_) (fun m26 a25 hi27 hm28 => ?_)
    refine sim_let (v := iv a25) ((Tab.enc h12 items_).ld hm28 false 1 0) ?_
    refine sim_let (v := bv (decide (w14 = 0))) (aCmp_eq _ _) ?_
    refine sim_guardF (e := bv) (fun hb29 => ?_) (fun c34 => ?_)
    · refine sim_let (v := iv (wr (w14 - 1))) (aBin_sub _ _) ?_
      refine sim_get (O13.tab (A := Int) (s := c1) 0 rfl) (fun m31 a30 hi32 hm33 => ?_)
      refine sim_let (v := iv a30) ((O13.tab (A := Int) (s := c1) 0 rfl).ld hm33 false 1 0) ?_
      refine sim_let (v := bv (decide (gap_ < a30))) (aBin_gtr _ _) ?_
      exact sim_ret rfl
    · refine sim_let (v := bv (bif decide (w14 = 0) then true else c34)) (pick_b' _ _ _) ?_
      refine sim_cond (fun c35 => ?_) (fun c35 => ?_)
      · have O36 : Hold B h12 ([(x3, obS (c1 : Sl Int)), (nilS, obS ((none : Sl Int) : Sl Int))] ++ D2 (A := (Sl Int)) z8 ps10) := Hold.rot O13.addnil
        refine sim_buildRaw O36 [[nilS]] 1 rfl (by first | rfl | simp [aFillRows, zrows, (O36.one (A := Int) (s := (none : Sl Int)) 1 rfl).1, (O36.one (A := Int) (s := (none : Sl Int)) 1 rfl).2]) rfl (fun x38 h39 O40 => ?_)
        replace O40 : Hold B h39 ([(x3, obS (c1 : Sl Int)), (nilS, obS ((none : Sl Int) : Sl Int)), (x38, .sl 1 [[nilS]])] ++ D2 (A := (Sl Int)) z8 ps10) := Hold.rot O40
        have O42 : Hold B h39 ([(x3, obS (c1 : Sl Int)), (nilS, obS ((none : Sl Int) : Sl Int)), (x38, .sl 1 [[nilS]])] ++ D2 (A := (Sl Int)) z8 ps10) := O40.selD [0, 1, 2] (by decide) rfl
        refine sim_push (l := [(x3, obS (c1 : Sl Int))]) (a := (none : Sl Int)) (y := nilS) (x := z8) (ps := ps10) O42 hp11 (by decide) (fun x43 ps46 h44 hp47 hm48 O45 => ?_)
        refine sim_let (v := iv ((((appS w9 ([(none : Sl Int)] : List (Sl Int))).getD []).length : Nat) : Int)) (D2.lenS (l := [(x3, obS (c1 : Sl Int))]) (x := x43) (ps := ps46) (A := (Sl Int)) O45 hp47) ?_
        refine sim_let (v := iv (wr (((((appS w9 ([(none : Sl Int)] : List (Sl Int))).getD []).length : Nat) : Int) - 1))) (aBin_sub _ _) ?_
        refine sim_let (v := iv ((((appS w9 ([(none : Sl Int)] : List (Sl Int))).getD []).length : Nat) : Int)) (D2.lenS (l := [(x3, obS (c1 : Sl Int))]) (x := x43) (ps := ps46) (A := (Sl Int)) O45 hp47) ?_
        refine sim_let (v := iv (wr (((((appS w9 ([(none : Sl Int)] : List (Sl Int))).getD []).length : Nat) : Int) - 1))) (aBin_sub _ _) ?_
        refine sim_getN (l := [(x3, obS (c1 : Sl Int))]) (x := x43) (ps := ps46) (A := (Sl Int)) O45 hp47 (fun m51 a50 x54 hi52 hm53 hg55 => ?_)
        refine sim_let (v := x54) (D2.ld (l := [(x3, obS (c1 : Sl Int))]) (x := x43) (ps := ps46) (A := (Sl Int)) O45 hm53 false 1 0) ?_
        refine sim_build (A := Int) O45 ([a25] : List Int) rfl (by first | rfl | simp [aFillRows, zrows]) rfl (fun x56 h57 O58 => ?_)
        replace O58 : Hold B h57 ([(x3, obS (c1 : Sl Int)), (x56, obS ((some ([a25] : List Int)) : Sl Int))] ++ D2 (A := (Sl Int)) x43 ps46) := Hold.rot O58
        refine sim_appRow (bytes := 8) (C := Int) (l := [(x3, obS (c1 : Sl Int)), (x56, obS ((some ([a25] : List Int)) : Sl Int))]) (x := x43) (ps := ps46) O58 hp47 hi52 hm53 ([a25] : List Int) (O58.src (A := Int) (s := (some ([a25] : List Int))) 1 rfl) (by decide) (fun v66 v67 ps62 h60 hp63 O61 => ?_)
        replace O61 : Hold B h60 ([(x3, obS (c1 : Sl Int)), (x56, obS ((some ([a25] : List Int)) : Sl Int))] ++ D2 (A := (Sl Int)) x43 ps62) := O61
        have O64 : Hold B h60 ([(x3, obS (c1 : Sl Int))] ++ D2 (A := (Sl Int)) x43 ps62) := O61.selD [0] (by decide) rfl
        refine sim_let (v := iv (wr (w14 + 1))) (aBin_add _ _) ?_
        exact sim_ret ⟨rfl, _, _, rfl, hp63, O64⟩
      · refine sim_let (v := iv (((w9.getD []).length : Nat) : Int)) (D2.lenS (l := [(x3, obS (c1 : Sl Int))]) (x := z8) (ps := ps10) (A := (Sl Int)) O13 hp11) ?_
        refine sim_let (v := iv (wr ((((w9.getD []).length : Nat) : Int) - 1))) (aBin_sub _ _) ?_
        refine sim_let (v := iv (((w9.getD []).length : Nat) : Int)) (D2.lenS (l := [(x3, obS (c1 : Sl Int))]) (x := z8) (ps := ps10) (A := (Sl Int)) O13 hp11) ?_
        refine sim_let (v := iv (wr ((((w9.getD []).length : Nat) : Int) - 1))) (aBin_sub _ _) ?_
        refine sim_getN (l := [(x3, obS (c1 : Sl Int))]) (x := z8) (ps := ps10) (A := (Sl Int)) O13 hp11 (fun m69 a68 x72 hi70 hm71 hg73 => ?_)
        refine sim_let (v := x72) (D2.ld (l := [(x3, obS (c1 : Sl Int))]) (x := z8) (ps := ps10) (A := (Sl Int)) O13 hm71 false 1 0) ?_
        refine sim_build (A := Int) O13 ([a25] : List Int) rfl (by first | rfl | simp [aFillRows, zrows]) rfl (fun x74 h75 O76 => ?_)
        replace O76 : Hold B h75 ([(x3, obS (c1 : Sl Int)), (x74, obS ((some ([a25] : List Int)) : Sl Int))] ++ D2 (A := (Sl Int)) z8 ps10) := Hold.rot O76
        refine sim_appRow (bytes := 8) (C := Int) (l := [(x3, obS (c1 : Sl Int)), (x74, obS ((some ([a25] : List Int)) : Sl Int))]) (x := z8) (ps := ps10) O76 hp11 hi70 hm71 ([a25] : List Int) (O76.src (A := Int) (s := (some ([a25] : List Int))) 1 rfl) (by decide) (fun v84 v85 ps80 h78 hp81 O79 => ?_)
        replace O79 : Hold B h78 ([(x3, obS (c1 : Sl Int)), (x74, obS ((some ([a25] : List Int)) : Sl Int))] ++ D2 (A := (Sl Int)) z8 ps80) := O79
        have O82 : Hold B h78 ([(x3, obS (c1 : Sl Int))] ++ D2 (A := (Sl Int)) z8 ps80) := O79.selD [0] (by decide) rfl
        refine sim_let (v := iv (wr (w14 + 1))) (aBin_add _ _) ?_
        exact sim_ret ⟨rfl, _, _, rfl, hp81, O82⟩
  · exact sim_ret ⟨nofun, _, _, _, _, _, rfl, hp11, O13⟩
theorem ts_impl_wordsOfLine (env : Nat → Contract) (he_impl_gapsOf : env n_impl_gapsOf = .pure (C2 (fun c : (Sl Int) => rS c) t_impl_gapsOf)) (boxes_ : Sl Box) (items_ : Sl Int) (gap_ : Int) : Sim (denFn Try.prog env n_impl_wordsOfLine [Sl.enc boxes_, Sl.enc items_, iv gap_] []) (t_impl_wordsOfLine boxes_ items_ gap_) fun c p => release p.2 depth p.1 = some ((fun c : (Sl (Sl Int)) => rD c) c) := by
  have O := Hold.nil []
  generalize hB : (⟨[], []⟩ : Base) = B at O
  clear hB
  rw [e_impl_wordsOfLine]
  unfold t_impl_wordsOfLine
  refine sim_call2 he_impl_gapsOf (snapD_enc _ _) (snapD_enc _ _) (fun c1 => ?_)
  refine sim_hand (A := Int) O (fun x3 h4 O5 => ?_)
  replace O5 : Hold B h4 [(x3, obS (c1 : Sl Int))] := O5
  refine sim_let (v := iv (((items_.getD []).length : Nat) : Int)) (Tab.enc h4 items_).len ?_
  have O6 : Hold B h4 ([(x3, obS (c1 : Sl Int))] ++ D2 (A := (Sl Int)) nilS (none : PS (Sl Int))) := O5.addnil
  refine sim_bind ((tl0_impl_wordsOfLine env he_impl_gapsOf boxes_ items_ gap_ c1 x3) ⟨_, _, rfl, (rfl : pj (none : PS (Sl Int)) = (none : Sl (Sl Int))), O6⟩) (fun qq88 r hq => ?_)
  revert hq
  revert qq88
  intro q18 hq
  obtain ⟨z17, z21, z22, ps19, h15, rfl, hp20, O16⟩ := hq
  rw [e_lk0x0_impl_wordsOfLine]
  have O23 : Hold B h15 ([] ++ D2 (A := (Sl Int)) z17 ps19) := O16.selD [] (by decide) rfl
  exact sim_ret (release_of (by simp only [ids_tup, ids_aggD, ids_agg, ids_iv, ids_bv, ids_sv, ids_bt, ids_nilS, ids_enc, D2.ids8 (l := []) (x := z17) (ps := ps19) (A := (Sl Int)) O23, List.map_append, List.map_nil, List.flatMap_cons, List.flatMap_nil, List.append_nil, List.nil_append]; simpa only [List.flatMap_cons, List.flatMap_nil, List.append_nil, List.nil_append] using O23.nd2) (by simp only [rel_tup, rel_aggD, rel_agg, rel_iv, rel_bv, rel_sv, rel_bt, rel_nilS, rel_enc, D2.rel8 (l := []) (x := z17) (ps := ps19) (A := (Sl Int)) O23 hp20, omapc, omapn, obind_sm] <;> rfl))
theorem tt_impl_wordsOfLine : PureOK Try.prog n_impl_wordsOfLine (C3 (fun c : (Sl (Sl Int)) => rD c) t_impl_wordsOfLine) := pureC3 (Econs tt_impl_gapsOf E0) mixed hb_impl_wordsOfLine fun boxes_ items_ gap_ => ts_impl_wordsOfLine _ (by simp [envL]) boxes_ items_ gap_

def t_impl_WordsOfLine (boxes_ : Sl Box) (items_ : Sl Int) (gap_ : Int) : Option ((Sl (Sl Int)) × Int) :=
  obind (t_impl_isPage boxes_) fun c1 =>
  bif !c1 then
    some ((none : Sl (Sl Int)), 1)
  else
    obind (t_impl_isGap gap_) fun c3 =>
    obind (bif !c3 then some false else (obind (t_impl_areItems boxes_ items_) fun c5 => some (!c5))) fun c6 =>
    bif (bif !c3 then true else c6) then
      some ((none : Sl (Sl Int)), 2)
    else
      obind (t_impl_wordsOfLine boxes_ items_ gap_) fun c8 =>
      some (c8, 0)

theorem ts_impl_WordsOfLine (env : Nat → Contract) (he_impl_areItems : env n_impl_areItems = .pure (C2 (fun c : Bool => enc c) t_impl_areItems)) (he_impl_isGap : env n_impl_isGap = .pure (C1 (fun c : Bool => enc c) t_impl_isGap)) (he_impl_isPage : env n_impl_isPage = .pure (C1 (fun c : Bool => enc c) t_impl_isPage)) (he_impl_wordsOfLine : env n_impl_wordsOfLine = .pure (C3 (fun c : (Sl (Sl Int)) => rD c) t_impl_wordsOfLine)) (boxes_ : Sl Box) (items_ : Sl Int) (gap_ : Int) : Sim (denFn Try.prog env n_impl_WordsOfLine [Sl.enc boxes_, Sl.enc items_, iv gap_] []) (t_impl_WordsOfLine boxes_ items_ gap_) fun c p => release p.2 depth p.1 = some ((fun c : (Sl (Sl Int)) × Int => AV.tup [rD c.1, enc c.2]) c) := by
  have O := Hold.nil []
  generalize hB : (⟨[], []⟩ : Base) = B at O
  clear hB
  rw [e_impl_WordsOfLine]
  unfold t_impl_WordsOfLine
  refine sim_call1 he_impl_isPage (snapD_enc _ _) (fun c1 => ?_)
  refine sim_let2 (hand_plain (by rfl) _ _) ?_
  refine sim_let (v := bv (!c1)) (aUn_not _) ?_
  refine sim_cond (fun c2 => ?_) (fun c2 => ?_)
  · exact sim_ret (release_plain (by rfl) _)
  · refine sim_call1 he_impl_isGap (snapD_int _ _) (fun c3 => ?_)
    refine sim_let2 (hand_plain (by rfl) _ _) ?_
    refine sim_let (v := bv (!c3)) (aUn_not _) ?_
    refine sim_guardF (e := bv) (fun hb4 => ?_) (fun c6 => ?_)
    · refine sim_call2 he_impl_areItems (snapD_enc _ _) (snapD_enc _ _) (fun c5 => ?_)
      refine sim_let2 (hand_plain (by rfl) _ _) ?_
      refine sim_let (v := bv (!c5)) (aUn_not _) ?_
      exact sim_ret rfl
    · refine sim_let (v := bv (bif !c3 then true else c6)) (pick_b' _ _ _) ?_
      refine sim_cond (fun c7 => ?_) (fun c7 => ?_)
      · exact sim_ret (release_plain (by rfl) _)
      · refine sim_call3 he_impl_wordsOfLine (snapD_enc _ _) (snapD_enc _ _) (snapD_int _ _) (fun c8 => ?_)
        refine sim_handN (l := []) (A := (Sl Int)) O (fun x10 ps13 h11 hp14 O12 => ?_)
        have O15 : Hold B h11 ([] ++ D2 (A := (Sl Int)) x10 ps13) := O12.selD [] (by decide) rfl
        exact sim_ret (release_of (by simp only [ids_tup, ids_aggD, ids_agg, ids_iv, ids_bv, ids_sv, ids_bt, ids_nilS, ids_enc, D2.idsN (l := []) (x := x10) (ps := ps13) (A := (Sl Int)) O15, List.map_append, List.map_nil, List.flatMap_cons, List.flatMap_nil, List.append_nil, List.nil_append]; simpa only [List.flatMap_cons, List.flatMap_nil, List.append_nil, List.nil_append] using O15.nd2) (by simp only [rel_tup, rel_aggD, rel_agg, rel_iv, rel_bv, rel_sv, rel_bt, rel_nilS, rel_enc, D2.relN (l := []) (x := x10) (ps := ps13) (A := (Sl Int)) O15 hp14, omapc, omapn, obind_sm] <;> rfl))
theorem tt_impl_WordsOfLine : PureOK Try.prog n_impl_WordsOfLine (C3 (fun c : (Sl (Sl Int)) × Int => AV.tup [rD c.1, enc c.2]) t_impl_WordsOfLine) := pureC3 (Econs tt_impl_areItems (Econs tt_impl_isGap (Econs tt_impl_isPage (Econs tt_impl_wordsOfLine E0)))) mixed hb_impl_WordsOfLine fun boxes_ items_ gap_ => ts_impl_WordsOfLine _ (by simp [envL]) (by simp [envL]) (by simp [envL]) (by simp [envL]) boxes_ items_ gap_

def s0_laws_eqInt64SS (a_ : Sl (Sl Int)) (b_ : Sl (Sl Int)) : Int → Option (Sum Int (Sum Unit Bool)) := fun w4 =>
  bif decide (w4 < (((a_.getD []).length : Nat) : Int)) then
    obind (getI (a_.getD []) w4) fun a14 =>
    obind (getI (b_.getD []) w4) fun a18 =>
    obind (t_laws_eqInt64S a14 a18) fun c22 =>
    bif !c22 then
      some (.inr (.inr false))
    else
      some (.inl (wr (w4 + 1)))
  else
    some (.inr (.inl ()))
def t_laws_eqInt64SS (a_ : Sl (Sl Int)) (b_ : Sl (Sl Int)) : Option Bool :=
  bif !decide ((((a_.getD []).length : Nat) : Int) = (((b_.getD []).length : Nat) : Int)) then
    some false
  else
    obind (loopT (s0_laws_eqInt64SS a_ b_) 0) fun qq28 => match qq28 with
    | (.inl _) =>
        some true
    | (.inr q11) =>
        some q11

theorem tl0_laws_eqInt64SS (env : Nat → Contract) {B : Base} (he_laws_eqInt64S : env n_laws_eqInt64S = .pure (C2 (fun c : Bool => enc c) t_laws_eqInt64S)) (a_ : Sl (Sl Int)) (b_ : Sl (Sl Int))  {st : Int} {tm : TM} {h : Heap} (R : (fun (st : Int) tm h2 => match st with | w4 => tm = [Sl.enc a_, Sl.enc b_, und, und, AV.top, iv w4, Sl.enc a_, iv (((a_.getD []).length : Nat) : Int), Sl.enc b_, iv (((b_.getD []).length : Nat) : Int), bv (!decide ((((a_.getD []).length : Nat) : Int) = (((b_.getD []).length : Nat) : Int))), AV.top, AV.top, AV.top, AV.top, AV.top, AV.top, AV.top, AV.top, AV.top, AV.top, AV.top, AV.top, AV.top, AV.top, AV.top, AV.top] ∧ Hold B h2 []) st tm h) : Sim (loopP hm0_laws_eqInt64SS xm0_laws_eqInt64SS (lb0_laws_eqInt64SS env) tm h) (loopT (s0_laws_eqInt64SS a_ b_) st) (fun (q : Sum Unit Bool) (r : Res) => match q with | .inl _ => ∃ (q8 : Int) (z7 : AV) (h5 : Heap), r = (.exit 0, [Sl.enc a_, Sl.enc b_, und, und, z7, iv q8, Sl.enc a_, iv (((a_.getD []).length : Nat) : Int), Sl.enc b_, iv (((b_.getD []).length : Nat) : Int), bv (!decide ((((a_.getD []).length : Nat) : Int) = (((b_.getD []).length : Nat) : Int))), AV.top, AV.top, AV.top, AV.top, AV.top, AV.top, AV.top, AV.top, AV.top, AV.top, AV.top, AV.top, AV.top, AV.top, AV.top, AV.top], h5) ∧ Hold B h5 [] | .inr q11 => ∃ (q12 : Int) (h9 : Heap), r = (.ret, [Sl.enc a_, Sl.enc b_, und, und, bv q11, iv q12, Sl.enc a_, iv (((a_.getD []).length : Nat) : Int), Sl.enc b_, iv (((b_.getD []).length : Nat) : Int), bv (!decide ((((a_.getD []).length : Nat) : Int) = (((b_.getD []).length : Nat) : Int))), AV.top, AV.top, AV.top, AV.top, AV.top, AV.top, AV.top, AV.top, AV.top, AV.top, AV.top, AV.top, AV.top, AV.top, AV.top, AV.top], h9) ∧ Hold B h9 []) := by
  refine loop_sim (Rel := fun (st : Int) tm h2 => match st with | w4 => tm = [Sl.enc a_, Sl.enc b_, und, und, AV.top, iv w4, Sl.enc a_, iv (((a_.getD []).length : Nat) : Int), Sl.enc b_, iv (((b_.getD []).length : Nat) : Int), bv (!decide ((((a_.getD []).length : Nat) : Int) = (((b_.getD []).length : Nat) : Int))), AV.top, AV.top, AV.top, AV.top, AV.top, AV.top, AV.top, AV.top, AV.top, AV.top, AV.top, AV.top, AV.top, AV.top, AV.top, AV.top] ∧ Hold B h2 []) (fun w4 tm h2 R => ?_) R
  obtain ⟨rfl, O3⟩ := R
  rw [e_lb0_laws_eqInt64SS]
  unfold s0_laws_eqInt64SS
  dsimp only
  refine sim_let (v := iv (((a_.getD []).length : Nat) : Int)) (Tab.enc h2 a_).len ?_
  refine sim_let (v := bv (decide (w4 < (((a_.getD []).length : Nat) : Int)))) (aBin_lss _ _) ?_
  refine sim_cond (fun c13 => ?_) (fun c13 => ?_)
  · refine sim_get (Tab.enc h2 a_) (fun m15 a14 hi16 hm17 => ?_)
    refine sim_let (v := Sl.enc a14) ((Tab.enc h2 a_).ld hm17 false 1 0) ?_
    refine sim_get (Tab.enc h2 b_) (fun m19 a18 hi20 hm21 => ?_)
    refine sim_let (v := Sl.enc a18) ((Tab.enc h2 b_).ld hm21 false 1 0) ?_
    refine sim_callQ2 he_laws_eqInt64S (snapD_enc _ _) (snapD_enc _ _) (fun c22 => ?_)
    refine sim_let2 (hand_plain (by rfl) _ _) ?_
    refine sim_let (v := bv (!c22)) (aUn_not _) ?_
    refine sim_cond (fun c23 => ?_) (fun c23 => ?_)
    · exact sim_ret ⟨nofun, _, _, rfl, O3⟩
    · refine sim_let (v := iv (wr (w4 + 1))) (aBin_add _ _) ?_
      exact sim_ret ⟨rfl, rfl, O3⟩
  · exact sim_ret ⟨nofun, _, _, _, rfl, O3⟩
theorem ts_laws_eqInt64SS (env : Nat → Contract) (he_laws_eqInt64S : env n_laws_eqInt64S = .pure (C2 (fun c : Bool => enc c) t_laws_eqInt64S)) (a_ : Sl (Sl Int)) (b_ : Sl (Sl Int)) : Sim (denFn Try.prog env n_laws_eqInt64SS [Sl.enc a_, Sl.enc b_] []) (t_laws_eqInt64SS a_ b_) fun c p => release p.2 depth p.1 = some ((fun c : Bool => enc c) c) := by
  have O := Hold.nil []
  generalize hB : (⟨[], []⟩ : Base) = B at O
  clear hB
  rw [e_laws_eqInt64SS]
  unfold t_laws_eqInt64SS
  refine sim_let (v := iv (((a_.getD []).length : Nat) : Int)) (Tab.enc [] a_).len ?_
  refine sim_let (v := iv (((b_.getD []).length : Nat) : Int)) (Tab.enc [] b_).len ?_
  refine sim_let (v := bv (!decide ((((a_.getD []).length : Nat) : Int) = (((b_.getD []).length : Nat) : Int)))) (aCmp_ne _ _) ?_
  refine sim_cond (fun c1 => ?_) (fun c1 => ?_)
  · exact sim_ret (release_plain (by rfl) _)
  · refine sim_bind ((tl0_laws_eqInt64SS env he_laws_eqInt64S a_ b_) ⟨rfl, O⟩) (fun qq28 r hq => ?_)
    rcases qq28 with _ | q11
    · obtain ⟨q8, z7, h5, rfl, O6⟩ := hq
      rw [e_lk0x0_laws_eqInt64SS]
      exact sim_ret (release_plain (by rfl) _)
    · obtain ⟨q12, h9, rfl, O10⟩ := hq
      rw [e_lk0r_laws_eqInt64SS]
      exact sim_ret (release_plain (by rfl) _)
theorem tt_laws_eqInt64SS : PureOK Try.prog n_laws_eqInt64SS (C2 (fun c : Bool => enc c) t_laws_eqInt64SS) := pureC2 (Econs tt_laws_eqInt64S E0) mixed hb_laws_eqInt64SS fun a_ b_ => ts_laws_eqInt64SS _ (by simp [envL]) a_ b_

def s0_laws_heldInt64SS (a_ : Sl (Sl Int)) : (Int × Int) → Option (Sum (Int × Int) (Sum Int Int)) := fun (w3, w4) =>
  bif decide (w4 < (((a_.getD []).length : Nat) : Int)) then
    obind (getI (a_.getD []) w4) fun a16 =>
    obind (t_laws_heldInt64S a16 w3) fun c20 =>
    bif decide (c20 < 0) then
      some (.inr (.inr (-1)))
    else
      some (.inl (c20, wr (w4 + 1)))
  else
    some (.inr (.inl w3))
def t_laws_heldInt64SS (a_ : Sl (Sl Int)) (k_ : Int) : Option Int :=
  obind (loopT (s0_laws_heldInt64SS a_) (k_, 0)) fun qq26 => match qq26 with
  | (.inl q7) =>
      some q7
  | (.inr q13) =>
      some q13

theorem tl0_laws_heldInt64SS (env : Nat → Contract) {B : Base} (he_laws_heldInt64S : env n_laws_heldInt64S = .pure (C2 (fun c : Int => enc c) t_laws_heldInt64S)) (a_ : Sl (Sl Int))  {st : Int × Int} {tm : TM} {h : Heap} (R : (fun (st : Int × Int) tm h1 => match st with | (w3, w4) => tm = [Sl.enc a_, iv w3, und, und, AV.top, iv w4, AV.top, AV.top, AV.top, AV.top, AV.top, AV.top, AV.top, AV.top, AV.top, AV.top, AV.top, AV.top, AV.top, AV.top, und] ∧ Hold B h1 []) st tm h) : Sim (loopP hm0_laws_heldInt64SS xm0_laws_heldInt64SS (lb0_laws_heldInt64SS env) tm h) (loopT (s0_laws_heldInt64SS a_) st) (fun (q : Sum Int Int) (r : Res) => match q with | .inl q7 => ∃ (q9 : Int) (z8 : AV) (h5 : Heap), r = (.exit 0, [Sl.enc a_, iv q7, und, und, z8, iv q9, AV.top, AV.top, AV.top, AV.top, AV.top, AV.top, AV.top, AV.top, AV.top, AV.top, AV.top, AV.top, AV.top, AV.top, und], h5) ∧ Hold B h5 [] | .inr q13 => ∃ (q12 : Int) (q14 : Int) (h10 : Heap), r = (.ret, [Sl.enc a_, iv q12, und, und, iv q13, iv q14, AV.top, AV.top, AV.top, AV.top, AV.top, AV.top, AV.top, AV.top, AV.top, AV.top, AV.top, AV.top, AV.top, AV.top, und], h10) ∧ Hold B h10 []) := by
  refine loop_sim (Rel := fun (st : Int × Int) tm h1 => match st with | (w3, w4) => tm = [Sl.enc a_, iv w3, und, und, AV.top, iv w4, AV.top, AV.top, AV.top, AV.top, AV.top, AV.top, AV.top, AV.top, AV.top, AV.top, AV.top, AV.top, AV.top, AV.top, und] ∧ Hold B h1 []) (fun st tm h1 R => ?_) R
  obtain ⟨w3, w4⟩ := st
  obtain ⟨rfl, O2⟩ := R
  rw [e_lb0_laws_heldInt64SS]
  unfold s0_laws_heldInt64SS
  dsimp only
  refine sim_let (v := iv (((a_.getD []).length : Nat) : Int)) (Tab.enc h1 a_).len ?_
  refine sim_let (v := bv (decide (w4 < (((a_.getD []).length : Nat) : Int)))) (aBin_lss _ _) ?_
  refine sim_cond (fun c15 => ?_) (fun c15 => ?_)
  · refine sim_get (Tab.enc h1 a_) (fun m17 a16 hi18 hm19 => ?_)
    refine sim_let (v := Sl.enc a16) ((Tab.enc h1 a_).ld hm19 false 1 0) ?_
    refine sim_call2 he_laws_heldInt64S (snapD_enc _ _) (snapD_int _ _) (fun c20 => ?_)
    refine sim_let2 (hand_plain (by rfl) _ _) ?_
    refine sim_let (v := bv (decide (c20 < 0))) (aBin_lss _ _) ?_
    refine sim_cond (fun c21 => ?_) (fun c21 => ?_)
    · exact sim_ret ⟨nofun, _, _, _, rfl, O2⟩
    · refine sim_let (v := iv (wr (w4 + 1))) (aBin_add _ _) ?_
      exact sim_ret ⟨rfl, rfl, O2⟩
  · exact sim_ret ⟨nofun, _, _, _, rfl, O2⟩
theorem ts_laws_heldInt64SS (env : Nat → Contract) (he_laws_heldInt64S : env n_laws_heldInt64S = .pure (C2 (fun c : Int => enc c) t_laws_heldInt64S)) (a_ : Sl (Sl Int)) (k_ : Int) : Sim (denFn Try.prog env n_laws_heldInt64SS [Sl.enc a_, iv k_] []) (t_laws_heldInt64SS a_ k_) fun c p => release p.2 depth p.1 = some ((fun c : Int => enc c) c) := by
  have O := Hold.nil []
  generalize hB : (⟨[], []⟩ : Base) = B at O
  clear hB
  rw [e_laws_heldInt64SS]
  unfold t_laws_heldInt64SS
  refine sim_bind ((tl0_laws_heldInt64SS env he_laws_heldInt64S a_) ⟨rfl, O⟩) (fun qq26 r hq => ?_)
  rcases qq26 with q7 | q13
  · obtain ⟨q9, z8, h5, rfl, O6⟩ := hq
    rw [e_lk0x0_laws_heldInt64SS]
    exact sim_ret (release_plain (by rfl) _)
  · obtain ⟨q12, q14, h10, rfl, O11⟩ := hq
    rw [e_lk0r_laws_heldInt64SS]
    exact sim_ret (release_plain (by rfl) _)
theorem tt_laws_heldInt64SS : PureOK Try.prog n_laws_heldInt64SS (C2 (fun c : Int => enc c) t_laws_heldInt64SS) := pureC2 (Econs tt_laws_heldInt64S E0) mixed hb_laws_heldInt64SS fun a_ k_ => ts_laws_heldInt64SS _ (by simp [envL]) a_ k_

def t_laws_FnExactWordsOfLine (aBoxes_ : Sl Box) (aItems_ : Sl Int) (aGap_ : Int) : Option Bool :=
  bif decide (1048576 < (((aItems_.getD []).length : Nat) : Int)) then
    some true
  else
    obind (t_laws_szBoxS aBoxes_ 1048576) fun c2 =>
    bif decide (c2 < 0) then
      some true
    else
      obind (t_laws_toBoxS aBoxes_) fun c4 =>
      obind (t_laws_toInt64S aItems_) fun c9 =>
      obind (t_spec_WordsOfLine c4 c9 aGap_) fun c14 =>
      obind (t_laws_toBoxS aBoxes_) fun c21 =>
      obind (t_laws_toInt64S aItems_) fun c26 =>
      obind (t_impl_WordsOfLine c21 c26 aGap_) fun c31 =>
      obind (t_laws_eqInt64SS c31.1 c14.1) fun c38 =>
      obind (bif !c38 then some false else (some (!decide (c31.2 = c14.2)))) fun c40 =>
      bif (bif !c38 then true else c40) then
        some false
      else
        obind (t_laws_toBoxS aBoxes_) fun c42 =>
        obind (t_laws_eqBoxS c21 c42) fun c47 =>
        bif !c47 then
          some false
        else
          obind (t_laws_toInt64S aItems_) fun c49 =>
          obind (t_laws_eqInt64S c26 c49) fun c54 =>
          bif !c54 then
            some false
          else
            obind (t_laws_markBoxS c21 1) fun (r56, w57) =>
            obind (t_laws_markInt64S c26 r56) fun (r60, w61) =>
            obind (bif decide (r60 < 0) then some false else (obind (t_laws_eqInt64SS c31.1 c14.1) fun c65 => some (!c65))) fun c66 =>
            obind (bif (bif decide (r60 < 0) then true else c66) then some false else (some (!decide (c31.2 = c14.2)))) fun c68 =>
            bif (bif (bif decide (r60 < 0) then true else c66) then true else c68) then
              some false
            else
              obind (t_laws_markInt64SS c31.1 1) fun (r70, w71) =>
              obind (t_laws_heldInt64SS w71 1) fun c76 =>
              bif decide (c76 < 0) then
                some false
              else
                bif !decide (c76 = r70) then
                  some false
                else
                  obind (t_laws_toBoxS aBoxes_) fun c79 =>
                  obind (t_laws_toInt64S aItems_) fun c84 =>
                  obind (t_impl_WordsOfLine c79 c84 aGap_) fun c89 =>
                  obind (t_laws_eqInt64SS c89.1 c14.1) fun c96 =>
                  obind (bif !c96 then some false else (some (!decide (c89.2 = c14.2)))) fun c98 =>
                  bif (bif !c96 then true else c98) then
                    some false
                  else
                    obind (t_laws_heldInt64SS w71 1) fun c100 =>
                    bif decide (c100 < 0) then
                      some false
                    else
                      bif !decide (c100 = r70) then
                        some false
                      else
                        some true

theorem ts_laws_FnExactWordsOfLine (env : Nat → Contract) (he_impl_WordsOfLine : env n_impl_WordsOfLine = .pure (C3 (fun c : (Sl (Sl Int)) × Int => AV.tup [rD c.1, enc c.2]) t_impl_WordsOfLine)) (he_laws_eqBoxS : env n_laws_eqBoxS = .pure (C2 (fun c : Bool => enc c) t_laws_eqBoxS)) (he_laws_eqInt64S : env n_laws_eqInt64S = .pure (C2 (fun c : Bool => enc c) t_laws_eqInt64S)) (he_laws_eqInt64SS : env n_laws_eqInt64SS = .pure (C2 (fun c : Bool => enc c) t_laws_eqInt64SS)) (he_laws_heldInt64SS : env n_laws_heldInt64SS = .pure (C2 (fun c : Int => enc c) t_laws_heldInt64SS)) (he_laws_markBoxS : env n_laws_markBoxS = .gen (denFn Try.prog (envL []) n_laws_markBoxS)) (he_laws_markInt64S : env n_laws_markInt64S = .gen (denFn Try.prog (envL []) n_laws_markInt64S)) (he_laws_markInt64SS : env n_laws_markInt64SS = .gen (denFn Try.prog ev_laws_markInt64SS n_laws_markInt64SS)) (he_laws_szBoxS : env n_laws_szBoxS = .pure (C2 (fun c : Int => enc c) t_laws_szBoxS)) (he_laws_toBoxS : env n_laws_toBoxS = .pure (C1 (fun c : (Sl Box) => rS c) t_laws_toBoxS)) (he_laws_toInt64S : env n_laws_toInt64S = .pure (C1 (fun c : (Sl Int) => rS c) t_laws_toInt64S)) (he_spec_WordsOfLine : env n_spec_WordsOfLine = .pure (C3 (fun c : (Sl (Sl Int)) × Int => AV.tup [rD c.1, enc c.2]) t_spec_WordsOfLine)) (aBoxes_ : Sl Box) (aItems_ : Sl Int) (aGap_ : Int) : Sim (denFn Try.prog env n_laws_FnExactWordsOfLine [Sl.enc aBoxes_, Sl.enc aItems_, iv aGap_] []) (t_laws_FnExactWordsOfLine aBoxes_ aItems_ aGap_) fun c p => release p.2 depth p.1 = some ((fun c : Bool => enc c) c) := by
  have O := Hold.nil []
  generalize hB : (⟨[], []⟩ : Base) = B at O
  clear hB
  rw [e_laws_FnExactWordsOfLine]
  unfold t_laws_FnExactWordsOfLine
  refine sim_let (v := iv (((aItems_.getD []).length : Nat) : Int)) (Tab.enc [] aItems_).len ?_
  refine sim_let (v := bv (decide (1048576 < (((aItems_.getD []).length : Nat) : Int)))) (aBin_gtr _ _) ?_
  refine sim_cond (fun c1 => ?_) (fun c1 => ?_)
  · exact sim_ret (release_plain (by rfl) _)
  · refine sim_call2 he_laws_szBoxS (snapD_enc _ _) (snapD_int _ _) (fun c2 => ?_)
    refine sim_let2 (hand_plain (by rfl) _ _) ?_
    refine sim_let (v := bv (decide (c2 < 0))) (aBin_lss _ _) ?_
    refine sim_cond (fun c3 => ?_) (fun c3 => ?_)
    · exact sim_ret (release_plain (by rfl) _)
    · refine sim_call1 he_laws_toBoxS (snapD_enc _ _) (fun c4 => ?_)
      refine sim_hand (A := Box) O (fun x6 h7 O8 => ?_)
      replace O8 : Hold B h7 [(x6, obS (c4 : Sl Box))] := O8
      refine sim_call1 he_laws_toInt64S (snapD_enc _ _) (fun c9 => ?_)
      refine sim_hand (A := Int) O8 (fun x11 h12 O13 => ?_)
      replace O13 : Hold B h12 [(x6, obS (c4 : Sl Box)), (x11, obS (c9 : Sl Int))] := O13
      refine sim_call3 he_spec_WordsOfLine ((O13.tab (A := Box) (s := c4) 0 rfl).snap) ((O13.tab (A := Int) (s := c9) 1 rfl).snap) (snapD_int _ _) (fun c14 => ?_)
      refine sim_handNC (l := [(x6, obS (c4 : Sl Box)), (x11, obS (c9 : Sl Int))]) (A := (Sl Int)) 5 O13 (s := c14.1) (fun z1 => AV.tup [z1, iv c14.2]) (by intro b; simp only [mat_tup, mat_aggD, mat_agg, matLc, matLn, mat_iv, mat_bv, mat_sv, mat_bt, mat_nilS, List.append_nil, List.nil_append]) (fun hn => by have hn : noF 7 (rD c14.1) = true := hn; simp only [noF_tup, noF_aggD, noF_agg, noF_iv, noF_bv, noF_sv, noF_bt, noF_nilS, hn, List.all_cons, List.all_nil, Bool.and_self]) (fun x16 ps19 h17 hp20 O18 => ?_)
      refine sim_let (v := x16) rfl ?_
      refine sim_let (v := iv c14.2) rfl ?_
      refine sim_call1 he_laws_toBoxS (snapD_enc _ _) (fun c21 => ?_)
      refine sim_hand (A := Box) O18 (fun x23 h24 O25 => ?_)
      replace O25 : Hold B h24 ([(x6, obS (c4 : Sl Box)), (x11, obS (c9 : Sl Int)), (x23, obS (c21 : Sl Box))] ++ D2 (A := (Sl Int)) x16 ps19) := Hold.rot O25
      refine sim_call1 he_laws_toInt64S (snapD_enc _ _) (fun c26 => ?_)
      refine sim_hand (A := Int) O25 (fun x28 h29 O30 => ?_)
      replace O30 : Hold B h29 ([(x6, obS (c4 : Sl Box)), (x11, obS (c9 : Sl Int)), (x23, obS (c21 : Sl Box)), (x28, obS (c26 : Sl Int))] ++ D2 (A := (Sl Int)) x16 ps19) := Hold.rot O30
      refine sim_call3 he_impl_WordsOfLine ((O30.tab (A := Box) (s := c21) 2 rfl).snap) ((O30.tab (A := Int) (s := c26) 3 rfl).snap) (snapD_int _ _) (fun c31 => ?_)
      refine sim_handNC (l := ([(x6, obS (c4 : Sl Box)), (x11, obS (c9 : Sl Int)), (x23, obS (c21 : Sl Box)), (x28, obS (c26 : Sl Int))] ++ D2 (A := (Sl Int)) x16 ps19)) (A := (Sl Int)) 5 O30 (s := c31.1) (fun z1 => AV.tup [z1, iv c31.2]) (by intro b; simp only [mat_tup, mat_aggD, mat_agg, matLc, matLn, mat_iv, mat_bv, mat_sv, mat_bt, mat_nilS, List.append_nil, List.nil_append]) (fun hn => by have hn : noF 7 (rD c31.1) = true := hn; simp only [noF_tup, noF_aggD, noF_agg, noF_iv, noF_bv, noF_sv, noF_bt, noF_nilS, hn, List.all_cons, List.all_nil, Bool.and_self]) (fun x33 ps36 h34 hp37 O35 => ?_)
      refine sim_let (v := x33) rfl ?_
      refine sim_let (v := iv c31.2) rfl ?_
      refine sim_call2 he_laws_eqInt64SS ((D2.snapD (l := ([(x6, obS (c4 : Sl Box)), (x11, obS (c9 : Sl Int)), (x23, obS (c21 : Sl Box)), (x28, obS (c26 : Sl Int))] ++ D2 (A := (Sl Int)) x16 ps19)) (x := x33) (ps := ps36) (A := (Sl Int)) O35 hp37).2) ((D2.snapD (l := ([(x6, obS (c4 : Sl Box)), (x11, obS (c9 : Sl Int)), (x23, obS (c21 : Sl Box)), (x28, obS (c26 : Sl Int))] ++ D2 (A := (Sl Int)) x33 ps36)) (x := x16) (ps := ps19) (A := (Sl Int)) (Hold.sw20 O35) hp20).2) (fun c38 => ?_)
      refine sim_let2 (hand_plain (by rfl) _ _) ?_
      refine sim_let (v := bv (!c38)) (aUn_not _) ?_
      refine sim_guardF (e := bv) (fun hb39 => ?_) (fun c40 => ?_)
      · refine sim_let (v := bv (!decide (c31.2 = c14.2))) (aCmp_ne _ _) ?_
        exact sim_ret rfl
      · refine sim_let (v := bv (bif !c38 then true else c40)) (pick_b' _ _ _) ?_
        refine sim_cond (fun c41 => ?_) (fun c41 => ?_)
        · exact sim_ret (release_plain (by rfl) _)
        · refine sim_call1 he_laws_toBoxS (snapD_enc _ _) (fun c42 => ?_)
          refine sim_hand (A := Box) O35 (fun x44 h45 O46 => ?_)
          replace O46 : Hold B h45 ([(x6, obS (c4 : Sl Box)), (x11, obS (c9 : Sl Int)), (x23, obS (c21 : Sl Box)), (x28, obS (c26 : Sl Int)), (x44, obS (c42 : Sl Box))] ++ D2 (A := (Sl Int)) x16 ps19 ++ D2 (A := (Sl Int)) x33 ps36) := Hold.rot2 O46
          refine sim_call2 he_laws_eqBoxS ((O46.tab (A := Box) (s := c21) 2 rfl).snap) ((O46.tab (A := Box) (s := c42) 4 rfl).snap) (fun c47 => ?_)
          refine sim_let2 (hand_plain (by rfl) _ _) ?_
          refine sim_let (v := bv (!c47)) (aUn_not _) ?_
          refine sim_cond (fun c48 => ?_) (fun c48 => ?_)
          · exact sim_ret (release_plain (by rfl) _)
          · refine sim_call1 he_laws_toInt64S (snapD_enc _ _) (fun c49 => ?_)
            refine sim_hand (A := Int) O46 (fun x51 h52 O53 => ?_)
            replace O53 : Hold B h52 ([(x6, obS (c4 : Sl Box)), (x11, obS (c9 : Sl Int)), (x23, obS (c21 : Sl Box)), (x28, obS (c26 : Sl Int)), (x44, obS (c42 : Sl Box)), (x51, obS (c49 : Sl Int))] ++ D2 (A := (Sl Int)) x16 ps19 ++ D2 (A := (Sl Int)) x33 ps36) := Hold.rot2 O53
            refine sim_call2 he_laws_eqInt64S ((O53.tab (A := Int) (s := c26) 3 rfl).snap) ((O53.tab (A := Int) (s := c49) 5 rfl).snap) (fun c54 => ?_)
            refine sim_let2 (hand_plain (by rfl) _ _) ?_
            refine sim_let (v := bv (!c54)) (aUn_not _) ?_
            refine sim_cond (fun c55 => ?_) (fun c55 => ?_)
            · exact sim_ret (release_plain (by rfl) _)
            · refine sim_mark (A := Box) O53 2 rfl he_laws_markBoxS mk_laws_markBoxS (fun r56 w57 h58 O59 => ?_)
              replace O59 : Hold B h58 ([(x6, obS (c4 : Sl Box)), (x11, obS (c9 : Sl Int)), (x23, obS (w57 : Sl Box)), (x28, obS (c26 : Sl Int)), (x44, obS (c42 : Sl Box)), (x51, obS (c49 : Sl Int))] ++ D2 (A := (Sl Int)) x16 ps19 ++ D2 (A := (Sl Int)) x33 ps36) := O59
              refine sim_mark (A := Int) O59 3 rfl he_laws_markInt64S mk_laws_markInt64S (fun r60 w61 h62 O63 => ?_)
              replace O63 : Hold B h62 ([(x6, obS (c4 : Sl Box)), (x11, obS (c9 : Sl Int)), (x23, obS (w57 : Sl Box)), (x28, obS (w61 : Sl Int)), (x44, obS (c42 : Sl Box)), (x51, obS (c49 : Sl Int))] ++ D2 (A := (Sl Int)) x16 ps19 ++ D2 (A := (Sl Int)) x33 ps36) := O63
              refine sim_let (v := bv (decide (r60 < 0))) (aBin_lss _ _) ?_
              refine sim_guardF (e := bv) (fun hb64 => ?_) (fun c66 => ?_)
              · refine sim_call2 he_laws_eqInt64SS ((D2.snapD (l := ([(x6, obS (c4 : Sl Box)), (x11, obS (c9 : Sl Int)), (x23, obS (w57 : Sl Box)), (x28, obS (w61 : Sl Int)), (x44, obS (c42 : Sl Box)), (x51, obS (c49 : Sl Int))] ++ D2 (A := (Sl Int)) x16 ps19)) (x := x33) (ps := ps36) (A := (Sl Int)) O63 hp37).2) ((D2.snapD (l := ([(x6, obS (c4 : Sl Box)), (x11, obS (c9 : Sl Int)), (x23, obS (w57 : Sl Box)), (x28, obS (w61 : Sl Int)), (x44, obS (c42 : Sl Box)), (x51, obS (c49 : Sl Int))] ++ D2 (A := (Sl Int)) x33 ps36)) (x := x16) (ps := ps19) (A := (Sl Int)) (Hold.sw20 O63) hp20).2) (fun c65 => ?_)
                refine sim_let2 (hand_plain (by rfl) _ _) ?_
                refine sim_let (v := bv (!c65)) (aUn_not _) ?_
                exact sim_ret rfl
              · refine sim_let (v := bv (bif decide (r60 < 0) then true else c66)) (pick_b' _ _ _) ?_
                refine sim_guardF (e := bv) (fun hb67 => ?_) (fun c68 => ?_)
                · refine sim_let (v := bv (!decide (c31.2 = c14.2))) (aCmp_ne _ _) ?_
                  exact sim_ret rfl
                · refine sim_let (v := bv (bif (bif decide (r60 < 0) then true else c66) then true else c68)) (pick_b' _ _ _) ?_
                  refine sim_cond (fun c69 => ?_) (fun c69 => ?_)
                  · exact sim_ret (release_plain (by rfl) _)
                  · refine sim_markD (l := ([(x6, obS (c4 : Sl Box)), (x11, obS (c9 : Sl Int)), (x23, obS (w57 : Sl Box)), (x28, obS (w61 : Sl Int)), (x44, obS (c42 : Sl Box)), (x51, obS (c49 : Sl Int))] ++ D2 (A := (Sl Int)) x16 ps19)) (x := x33) (ps := ps36) (A := (Sl Int)) O63 hp37 he_laws_markInt64SS mk_laws_markInt64SS (fun r70 w71 ps74 h72 hp75 O73 => ?_)
                    refine sim_call2 he_laws_heldInt64SS ((D2.snapD (l := ([(x6, obS (c4 : Sl Box)), (x11, obS (c9 : Sl Int)), (x23, obS (w57 : Sl Box)), (x28, obS (w61 : Sl Int)), (x44, obS (c42 : Sl Box)), (x51, obS (c49 : Sl Int))] ++ D2 (A := (Sl Int)) x16 ps19)) (x := x33) (ps := ps74) (A := (Sl Int)) O73 hp75).2) (snapD_int _ _) (fun c76 => ?_)
                    refine sim_let2 (hand_plain (by rfl) _ _) ?_
                    refine sim_let (v := bv (decide (c76 < 0))) (aBin_lss _ _) ?_
                    refine sim_cond (fun c77 => ?_) (fun c77 => ?_)
                    · exact sim_ret (release_plain (by rfl) _)
                    · refine sim_let (v := bv (!decide (c76 = r70))) (aCmp_ne _ _) ?_
                      refine sim_cond (fun c78 => ?_) (fun c78 => ?_)
                      · exact sim_ret (release_plain (by rfl) _)
                      · refine sim_call1 he_laws_toBoxS (snapD_enc _ _) (fun c79 => ?_)
                        refine sim_hand (A := Box) O73 (fun x81 h82 O83 => ?_)
                        replace O83 : Hold B h82 ([(x6, obS (c4 : Sl Box)), (x11, obS (c9 : Sl Int)), (x23, obS (w57 : Sl Box)), (x28, obS (w61 : Sl Int)), (x44, obS (c42 : Sl Box)), (x51, obS (c49 : Sl Int)), (x81, obS (c79 : Sl Box))] ++ D2 (A := (Sl Int)) x16 ps19 ++ D2 (A := (Sl Int)) x33 ps74) := Hold.rot2 O83
                        refine sim_call1 he_laws_toInt64S (snapD_enc _ _) (fun c84 => ?_)
                        refine sim_hand (A := Int) O83 (fun x86 h87 O88 => ?_)
                        replace O88 : Hold B h87 ([(x6, obS (c4 : Sl Box)), (x11, obS (c9 : Sl Int)), (x23, obS (w57 : Sl Box)), (x28, obS (w61 : Sl Int)), (x44, obS (c42 : Sl Box)), (x51, obS (c49 : Sl Int)), (x81, obS (c79 : Sl Box)), (x86, obS (c84 : Sl Int))] ++ D2 (A := (Sl Int)) x16 ps19 ++ D2 (A := (Sl Int)) x33 ps74) := Hold.rot2 O88
                        refine sim_call3 he_impl_WordsOfLine ((O88.tab (A := Box) (s := c79) 6 rfl).snap) ((O88.tab (A := Int) (s := c84) 7 rfl).snap) (snapD_int _ _) (fun c89 => ?_)
                        refine sim_handNC (l := ([(x6, obS (c4 : Sl Box)), (x11, obS (c9 : Sl Int)), (x23, obS (w57 : Sl Box)), (x28, obS (w61 : Sl Int)), (x44, obS (c42 : Sl Box)), (x51, obS (c49 : Sl Int)), (x81, obS (c79 : Sl Box)), (x86, obS (c84 : Sl Int))] ++ D2 (A := (Sl Int)) x16 ps19 ++ D2 (A := (Sl Int)) x33 ps74)) (A := (Sl Int)) 5 O88 (s := c89.1) (fun z1 => AV.tup [z1, iv c89.2]) (by intro b; simp only [mat_tup, mat_aggD, mat_agg, matLc, matLn, mat_iv, mat_bv, mat_sv, mat_bt, mat_nilS, List.append_nil, List.nil_append]) (fun hn => by have hn : noF 7 (rD c89.1) = true := hn; simp only [noF_tup, noF_aggD, noF_agg, noF_iv, noF_bv, noF_sv, noF_bt, noF_nilS, hn, List.all_cons, List.all_nil, Bool.and_self]) (fun x91 ps94 h92 hp95 O93 => ?_)
                        refine sim_let (v := x91) rfl ?_
                        refine sim_let (v := iv c89.2) rfl ?_
                        refine sim_call2 he_laws_eqInt64SS ((D2.snapD (l := ([(x6, obS (c4 : Sl Box)), (x11, obS (c9 : Sl Int)), (x23, obS (w57 : Sl Box)), (x28, obS (w61 : Sl Int)), (x44, obS (c42 : Sl Box)), (x51, obS (c49 : Sl Int)), (x81, obS (c79 : Sl Box)), (x86, obS (c84 : Sl Int))] ++ D2 (A := (Sl Int)) x16 ps19 ++ D2 (A := (Sl Int)) x33 ps74)) (x := x91) (ps := ps94) (A := (Sl Int)) O93 hp95).2) ((D2.snapD (l := ([(x6, obS (c4 : Sl Box)), (x11, obS (c9 : Sl Int)), (x23, obS (w57 : Sl Box)), (x28, obS (w61 : Sl Int)), (x44, obS (c42 : Sl Box)), (x51, obS (c49 : Sl Int)), (x81, obS (c79 : Sl Box)), (x86, obS (c84 : Sl Int))] ++ D2 (A := (Sl Int)) x33 ps74 ++ D2 (A := (Sl Int)) x91 ps94)) (x := x16) (ps := ps19) (A := (Sl Int)) (Hold.sw30 O93) hp20).2) (fun c96 => ?_)
                        refine sim_let2 (hand_plain (by rfl) _ _) ?_
                        refine sim_let (v := bv (!c96)) (aUn_not _) ?_
                        refine sim_guardF (e := bv) (fun hb97 => ?_) (fun c98 => ?_)
                        · refine sim_let (v := bv (!decide (c89.2 = c14.2))) (aCmp_ne _ _) ?_
                          exact sim_ret rfl
                        · refine sim_let (v := bv (bif !c96 then true else c98)) (pick_b' _ _ _) ?_
                          refine sim_cond (fun c99 => ?_) (fun c99 => ?_)
                          · exact sim_ret (release_plain (by rfl) _)
                          · refine sim_call2 he_laws_heldInt64SS ((D2.snapD (l := ([(x6, obS (c4 : Sl Box)), (x11, obS (c9 : Sl Int)), (x23, obS (w57 : Sl Box)), (x28, obS (w61 : Sl Int)), (x44, obS (c42 : Sl Box)), (x51, obS (c49 : Sl Int)), (x81, obS (c79 : Sl Box)), (x86, obS (c84 : Sl Int))] ++ D2 (A := (Sl Int)) x16 ps19 ++ D2 (A := (Sl Int)) x91 ps94)) (x := x33) (ps := ps74) (A := (Sl Int)) (Hold.sw31 O93) hp75).2) (snapD_int _ _) (fun c100 => ?_)
                            refine sim_let2 (hand_plain (by rfl) _ _) ?_
                            refine sim_let (v := bv (decide (c100 < 0))) (aBin_lss _ _) ?_
                            refine sim_cond (fun c101 => ?_) (fun c101 => ?_)
                            · exact sim_ret (release_plain (by rfl) _)
                            · refine sim_let (v := bv (!decide (c100 = r70))) (aCmp_ne _ _) ?_
                              refine sim_cond (fun c102 => ?_) (fun c102 => ?_)
                              · exact sim_ret (release_plain (by rfl) _)
                              · exact sim_ret (release_plain (by rfl) _)
theorem tt_laws_FnExactWordsOfLine : PureOK Try.prog n_laws_FnExactWordsOfLine (C3 (fun c : Bool => enc c) t_laws_FnExactWordsOfLine) := pureC3 (Econs tt_impl_WordsOfLine (Econs tt_laws_eqBoxS (Econs tt_laws_eqInt64S (Econs tt_laws_eqInt64SS (Econs tt_laws_heldInt64SS (EconsG (gen_of_den E0 mixed hb_laws_markBoxS) (EconsG (gen_of_den E0 mixed hb_laws_markInt64S) (EconsG (gen_of_den eo_laws_markInt64SS mixed hb_laws_markInt64SS) (Econs tt_laws_szBoxS (Econs tt_laws_toBoxS (Econs tt_laws_toInt64S (Econs tt_spec_WordsOfLine E0)))))))))))) mixed hb_laws_FnExactWordsOfLine fun aBoxes_ aItems_ aGap_ => ts_laws_FnExactWordsOfLine _ (by simp [envL]) (by simp [envL]) (by simp [envL]) (by simp [envL]) (by simp [envL]) (by simp [envL]) (by simp [envL]) (by simp [envL]) (by simp [envL]) (by simp [envL]) (by simp [envL]) (by simp [envL]) aBoxes_ aItems_ aGap_

theorem wr_succ {k n : Nat} (h : k < n) (hn : n ≤ 4294967296) : wr ((k : Int) + 1) = ((k + 1 : Nat) : Int) := by
  rw [wr_id (by omega) (by omega)]
  omega

theorem get_lt {A : Type} {l : List A} {k : Nat} {a : A} (h : l[k]? = some a) : k < l.length := (List.getElem?_eq_some_iff.1 h).1

theorem appS_cons {A : Type} (s : Sl A) (a : A) (l : List A) : appS s (a :: l) = some (s.getD [] ++ a :: l) := by cases s <;> rfl

theorem firstL_no {A R : Type} {f : Nat → A → Option R} : ∀ {l : List A} {k : Nat}, firstL f l k = none → ∀ i a, l[i]? = some a → f (k + i) a = none
  | [], _, _, i, a, ha => by simp at ha
  | b :: l, k, h, i, a, ha => by
    unfold firstL at h
    cases e : f k b with
    | some r => rw [e] at h; cases h
    | none =>
      rw [e] at h
      cases i with
      | zero =>
        simp only [List.getElem?_cons_zero, Option.some.injEq] at ha
        subst ha
        exact e
      | succ i =>
        have := firstL_no h i a (by simpa using ha)
        rw [← this]
        congr 1
        omega

theorem firstL_so {A R : Type} {f : Nat → A → Option R} : ∀ {l : List A} {k : Nat} {r : R}, firstL f l k = some r → ∃ i a, f i a = some r
  | [], _, _, h => by cases h
  | b :: l, k, r, h => by
    unfold firstL at h
    cases e : f k b with
    | some r' => rw [e] at h; cases h; exact ⟨k, b, e⟩
    | none => rw [e] at h; exact firstL_so h

/-- One pair lies ahead of another. -/
def Pre (p q i j : Nat) : Prop := (i = p + 1 ∧ j = q + 1) ∨ (i = p + 1 ∧ j = q) ∨ (i = p ∧ j = q + 1)

/-- A table's entry. -/
def Val (T : List (Sl Int)) (p q : Nat) (v : Int) : Prop := ∃ row, T[p]? = some (some row) ∧ row[q]? = some v

theorem Val.set {T : List (Sl Int)} {i j p q : Nat} {row : List Int} {v w : Int} (hr : T[i]? = some (some row)) (hj : j < row.length) :
    Val (T.set i (some (row.set j w))) p q v ↔ (p = i ∧ q = j ∧ v = w) ∨ (¬ (p = i ∧ q = j) ∧ Val T p q v) := by
  have hi := get_lt hr
  unfold Val
  constructor
  · rintro ⟨r, h1, h2⟩
    by_cases c : i = p
    · subst c
      rw [List.getElem?_set_self hi] at h1
      cases h1
      by_cases d : j = q
      · subst d
        rw [List.getElem?_set_self hj] at h2
        cases h2
        exact .inl ⟨rfl, rfl, rfl⟩
      · rw [List.getElem?_set_ne d] at h2
        exact .inr ⟨fun h => d h.2.symm, row, hr, h2⟩
    · rw [List.getElem?_set_ne c] at h1
      exact .inr ⟨fun h => c h.1.symm, r, h1, h2⟩
  · rintro (⟨rfl, rfl, rfl⟩ | ⟨hne, r, h1, h2⟩)
    · exact ⟨_, List.getElem?_set_self hi, List.getElem?_set_self hj⟩
    · by_cases c : i = p
      · subst c
        rw [hr] at h1
        cases h1
        have d : j ≠ q := fun h => hne ⟨rfl, h.symm⟩
        exact ⟨_, List.getElem?_set_self hi, by rw [List.getElem?_set_ne d]; exact h2⟩
      · exact ⟨r, by rw [List.getElem?_set_ne c]; exact h1, h2⟩

/-- A path read from its end on, with its cost. -/
inductive Tr (C : Nat → Nat → Int) (R : Nat → Nat → Prop) : Nat → Nat → Int → List Pair → Prop
  | start : R 0 0 → Tr C R 0 0 (C 0 0) [⟨0, 0⟩]
  | step {p q i j : Nat} {c : Int} {L : List Pair} : Tr C R p q c L → Pre p q i j → R i j → Tr C R i j (c + C i j) (⟨(i : Int), (j : Int)⟩ :: L)

theorem Tr.head {C : Nat → Nat → Int} {R : Nat → Nat → Prop} {i j : Nat} {c : Int} {L : List Pair} (h : Tr C R i j c L) : ∃ L', L = ⟨(i : Int), (j : Int)⟩ :: L' := by
  cases h with
  | start h => exact ⟨[], rfl⟩
  | step h1 h2 h3 => exact ⟨_, rfl⟩

def PVal (T : List (Sl Part)) (p q : Nat) (v : Part) : Prop := ∃ row, T[p]? = some (some row) ∧ row[q]? = some v

theorem PVal.set {T : List (Sl Part)} {i j p q : Nat} {row : List Part} {v w : Part} (hr : T[i]? = some (some row)) (hj : j < row.length) :
    PVal (T.set i (some (row.set j w))) p q v ↔ (p = i ∧ q = j ∧ v = w) ∨ (¬ (p = i ∧ q = j) ∧ PVal T p q v) := by
  have hi := get_lt hr
  unfold PVal
  constructor
  · rintro ⟨r, h1, h2⟩
    by_cases c : i = p
    · subst c
      rw [List.getElem?_set_self hi] at h1
      cases h1
      by_cases d : j = q
      · subst d
        rw [List.getElem?_set_self hj] at h2
        cases h2
        exact .inl ⟨rfl, rfl, rfl⟩
      · rw [List.getElem?_set_ne d] at h2
        exact .inr ⟨fun h => d h.2.symm, row, hr, h2⟩
    · rw [List.getElem?_set_ne c] at h1
      exact .inr ⟨fun h => c h.1.symm, r, h1, h2⟩
  · rintro (⟨rfl, rfl, rfl⟩ | ⟨hne, r, h1, h2⟩)
    · exact ⟨_, List.getElem?_set_self hi, List.getElem?_set_self hj⟩
    · by_cases c : i = p
      · subst c
        rw [hr] at h1
        cases h1
        have d : j ≠ q := fun h => hne ⟨rfl, h.symm⟩
        exact ⟨_, List.getElem?_set_self hi, by rw [List.getElem?_set_ne d]; exact h2⟩
      · exact ⟨r, by rw [List.getElem?_set_ne c]; exact h1, h2⟩

def d2 (a b : Point) : Int := (a.x - b.x) * (a.x - b.x) + (a.y - b.y) * (a.y - b.y)

structure BxV (b : Box) : Prop where
  v1 : 0 ≤ b.x1
  v2 : b.x1 ≤ b.x2
  v3 : b.x2 ≤ 4095
  v4 : 0 ≤ b.y1
  v5 : b.y1 ≤ b.y2
  v6 : b.y2 ≤ 4095

theorem validBox_iff {b : Box} : validBox b = true ↔ BxV b := by
  unfold validBox within
  simp only [Bool.and_eq_true, decide_eq_true_eq]
  constructor
  · rintro ⟨⟨⟨⟨h1, h2⟩, h3, h4⟩, h5⟩, h6⟩
    exact ⟨h1, h2, h5, h3, h4, h6⟩
  · rintro ⟨h1, h2, h3, h4, h5, h6⟩
    exact ⟨⟨⟨⟨h1, h2⟩, h4, h5⟩, h3⟩, h6⟩

/-- A copy, element by element. -/
theorem copyLoop {A : Type} (d : A) (l : List A) (hl : l.length ≤ 4294967296) (step : ((Sl A) × Int) → Option (Sum ((Sl A) × Int) (Sl A)))
    (next : ∀ (M : List A) (k : Nat) (a : A), M.length = l.length → l[k]? = some a → step (some M, (k : Int)) = some (.inl (some (M.set k a), wr ((k : Int) + 1))))
    (fin : ∀ w : Sl A, step (w, ((l.length : Nat) : Int)) = some (.inr w)) : loopT step (some (List.replicate l.length d), 0) = some (some l) := by
  obtain ⟨r, h1, h2⟩ := loopT_ex (step := step) (fun k t => ∃ M, t = (some M, (k : Int)) ∧ M.length = l.length ∧ ∀ j, j < k → M[j]? = l[j]?) l.length (fun r => r = some l)
    (fun k t hk ht => by
      obtain ⟨M, rfl, m1, m2⟩ := ht
      obtain ⟨a, ha⟩ : ∃ a, l[k]? = some a := ⟨l[k], List.getElem?_eq_getElem hk⟩
      have e := next M k a m1 ha
      rw [wr_succ hk hl] at e
      refine .inl ⟨_, e, _, rfl, by rw [List.length_set, m1], fun j hj => ?_⟩
      by_cases c : j = k
      · subst c
        rw [List.getElem?_set_self (by omega), ha]
      · rw [List.getElem?_set_ne (fun h => c h.symm)]
        exact m2 j (by omega))
    (fun t ht => by
      obtain ⟨M, rfl, m1, m2⟩ := ht
      refine ⟨_, fin _, ?_⟩
      congr 1
      apply List.ext_getElem?
      intro j
      by_cases c : j < l.length
      · exact m2 j c
      · rw [List.getElem?_eq_none (by omega), List.getElem?_eq_none (by omega)])
    (s := (some (List.replicate l.length d), 0)) ⟨_, rfl, by simp, fun j hj => by omega⟩
  rw [h1, h2]

theorem toBoxS_ok (a : Sl Box) (hl : (a.getD []).length ≤ 4294967296) : t_laws_toBoxS a = some (some (a.getD [])) := by
  have mk : makeO (⟨0, 0, 0, 0⟩ : Box) (((a.getD []).length : Nat) : Int) = some (List.replicate (a.getD []).length ⟨0, 0, 0, 0⟩) := by
    unfold makeO
    rw [if_pos ⟨by omega, by omega⟩, Int.toNat_natCast]
  have lp := copyLoop (⟨0, 0, 0, 0⟩ : Box) (a.getD []) hl (s0_laws_toBoxS a) (fun M k x hM hx => by
    have hk := get_lt hx
    have c : (k : Int) < (((a.getD []).length : Nat) : Int) := by omega
    obtain ⟨y, hy⟩ : ∃ y, M[k]? = some y := ⟨M[k]'(by omega), List.getElem?_eq_getElem _⟩
    unfold s0_laws_toBoxS
    simp only [c, decide_true, cond_true, getI_nat hx, obind_sm, Option.getD_some, getI_nat hy, setS, Option.map_some, Int.toNat_natCast]) (fun w => by
    unfold s0_laws_toBoxS
    simp only [Int.lt_irrefl, decide_false, cond_false])
  unfold t_laws_toBoxS
  rw [mk, obind_sm, lp, obind_sm]

theorem toInt64S_ok (a : Sl Int) (hl : (a.getD []).length ≤ 4294967296) : t_laws_toInt64S a = some (some (a.getD [])) := by
  have mk : makeO (0 : Int) (((a.getD []).length : Nat) : Int) = some (List.replicate (a.getD []).length 0) := by
    unfold makeO
    rw [if_pos ⟨by omega, by omega⟩, Int.toNat_natCast]
  have lp := copyLoop (0 : Int) (a.getD []) hl (s0_laws_toInt64S a) (fun M k x hM hx => by
    have hk := get_lt hx
    have c : (k : Int) < (((a.getD []).length : Nat) : Int) := by omega
    obtain ⟨y, hy⟩ : ∃ y, M[k]? = some y := ⟨M[k]'(by omega), List.getElem?_eq_getElem _⟩
    unfold s0_laws_toInt64S
    simp only [c, decide_true, cond_true, getI_nat hx, obind_sm, Option.getD_some, getI_nat hy, setS, Option.map_some, Int.toNat_natCast]) (fun w => by
    unfold s0_laws_toInt64S
    simp only [Int.lt_irrefl, decide_false, cond_false])
  unfold t_laws_toInt64S
  rw [mk, obind_sm, lp, obind_sm]

theorem eqI_ok {a b : Sl Int} (h : a.getD [] = b.getD []) (hl : (a.getD []).length ≤ 4294967296) : t_laws_eqInt64S a b = some true := by
  have lp := loopT_first (step := s0_laws_eqInt64S a b) (a.getD []) (fun _ _ => (none : Option Bool)) (.inl ()) .inr
    (fun k x hx => by
      have hk := get_lt hx
      have c : (k : Int) < ((a.getD []).length : Nat) := by omega
      unfold s0_laws_eqInt64S
      simp only [c, decide_true, cond_true, getI_nat hx, ← h, obind_sm, Bool.not_true, cond_false, wr_succ hk hl])
    (by
      unfold s0_laws_eqInt64S
      simp only [Int.lt_irrefl, decide_false, cond_false])
  rw [firstL_none (fun _ _ _ => rfl)] at lp
  unfold t_laws_eqInt64S
  rw [lp, ← h]
  simp

theorem eqB_ok {a b : Sl Box} (h : a.getD [] = b.getD []) (hl : (a.getD []).length ≤ 4294967296) : t_laws_eqBoxS a b = some true := by
  have lp := loopT_first (step := s0_laws_eqBoxS a b) (a.getD []) (fun _ _ => (none : Option Bool)) (.inl ()) .inr
    (fun k x hx => by
      have hk := get_lt hx
      have c : (k : Int) < ((a.getD []).length : Nat) := by omega
      unfold s0_laws_eqBoxS
      simp only [c, decide_true, cond_true, getI_nat hx, ← h, obind_sm, Bool.not_true, cond_false, wr_succ hk hl])
    (by
      unfold s0_laws_eqBoxS
      simp only [Int.lt_irrefl, decide_false, cond_false])
  rw [firstL_none (fun _ _ _ => rfl)] at lp
  unfold t_laws_eqBoxS
  rw [lp, ← h]
  simp

theorem mkI_get : ∀ (n : Nat) (k : Int) (i : Nat), i < n → (mkI k n)[i]? = some (k + i)
  | 0, _, _, h => by omega
  | n + 1, k, 0, _ => by simp [mkI]
  | n + 1, k, i + 1, h => by
    have := mkI_get n (k + 1) i (by omega)
    simp only [mkI, List.getElem?_cons_succ, this]
    congr 1
    omega

def fVB (_ : Nat) (b : Box) : Option Bool := bif !validBox b then some false else none

/-- The boxes are those of a page. -/
def pageB (l : List Box) : Bool := match firstL fVB l 0 with
  | none => decide (l.length ≤ 60)
  | some r => r

theorem l19Boxes_ok (s : Sl Box) (hl : (s.getD []).length ≤ 4294967296) : t_spec_l19Boxes s = some (pageB (s.getD [])) := by
  have lp := loopT_first (step := s0_spec_l19Boxes s) (s.getD []) fVB (.inl ()) .inr
    (fun k x hx => by
      have hk := get_lt hx
      have c : (k : Int) < (((s.getD []).length : Nat) : Int) := by omega
      unfold s0_spec_l19Boxes fVB
      simp only [c, decide_true, cond_true, getI_nat hx, obind_sm, wr_succ hk hl]
      cases validBox x <;> rfl)
    (by
      unfold s0_spec_l19Boxes
      simp only [Int.lt_irrefl, decide_false, cond_false])
  have d : decide ((((s.getD []).length : Nat) : Int) ≤ 60) = decide ((s.getD []).length ≤ 60) := decide_eq_decide.2 (by omega)
  unfold t_spec_l19Boxes pageB
  rw [lp]
  cases firstL fVB (s.getD []) 0 with
  | none => simp only [obind_sm, d]
  | some r => rfl

theorem fVB_some {l : List Box} {r : Bool} {k : Nat} (h : firstL fVB l k = some r) : r = false := by
  obtain ⟨i, a, hf⟩ := firstL_so h
  unfold fVB at hf
  cases h2 : validBox a <;> rw [h2] at hf <;> cases hf
  rfl

theorem isPage_ok (s : Sl Box) (hl : (s.getD []).length ≤ 4294967296) : t_impl_isPage s = some (pageB (s.getD [])) := by
  have lp := loopT_first (step := s0_slices_IndexFunc_impl_Box_impl_Box (fun a => some ((fun b : Box => !validBox b) a)) s) (s.getD []) (fun k a => bif !validBox a then some (k : Int) else none) (.inl ()) .inr
    (fun k a ha => by
      have hk := get_lt ha
      have c : (k : Int) < (((s.getD []).length : Nat) : Int) := by omega
      unfold s0_slices_IndexFunc_impl_Box_impl_Box
      simp only [c, decide_true, cond_true, getI_nat ha, obind_sm, wr_succ hk hl]
      cases validBox a <;> rfl)
    (by
      unfold s0_slices_IndexFunc_impl_Box_impl_Box
      simp only [Int.lt_irrefl, decide_false, cond_false])
  have key : ∀ (l : List Box) (k : Nat), (firstL (fun (k : Nat) a => bif !validBox a then some (k : Int) else none) l k = none ∧ firstL fVB l k = none) ∨ ∃ r, firstL (fun (k : Nat) a => bif !validBox a then some (k : Int) else none) l k = some r ∧ 0 ≤ r ∧ firstL fVB l k = some false := by
    intro l
    induction l with
    | nil => intro k; exact .inl ⟨rfl, rfl⟩
    | cons a l ih =>
      intro k
      unfold firstL fVB
      cases e : validBox a with
      | true =>
        simp only [Bool.not_true, cond_false]
        exact ih (k + 1)
      | false => exact .inr ⟨(k : Int), rfl, by omega, rfl⟩
  have cf : t_slices_ContainsFunc_impl_Box_impl_Box (fun a => some ((fun b : Box => !validBox b) a)) s = some (firstL fVB (s.getD []) 0).isSome := by
    unfold t_slices_ContainsFunc_impl_Box_impl_Box t_slices_IndexFunc_impl_Box_impl_Box
    rw [lp]
    rcases key (s.getD []) 0 with ⟨h1, h2⟩ | ⟨r, h1, h2, h3⟩
    · rw [h1, h2]
      simp
    · rw [h1, h3]
      simp [h2]
  have d : decide ((((s.getD []).length : Nat) : Int) ≤ 60) = decide ((s.getD []).length ≤ 60) := decide_eq_decide.2 (by omega)
  unfold t_impl_isPage pageB
  rw [cf, d]
  cases h : firstL fVB (s.getD []) 0 with
  | none => cases decide ((s.getD []).length ≤ 60) <;> rfl
  | some r =>
    have := fVB_some h
    subst this
    cases decide ((s.getD []).length ≤ 60) <;> rfl

theorem pageB_true {l : List Box} (h : pageB l = true) : l.length ≤ 60 ∧ ∀ b ∈ l, validBox b = true := by
  unfold pageB at h
  cases e : firstL fVB l 0 with
  | some r =>
    rw [e] at h
    simp only at h
    rw [fVB_some e] at h
    cases h
  | none =>
    rw [e] at h
    refine ⟨of_decide_eq_true h, fun b hb => ?_⟩
    obtain ⟨k, hk⟩ := List.mem_iff_getElem?.1 hb
    have := firstL_no e k b hk
    unfold fVB at this
    cases h2 : validBox b with
    | true => rfl
    | false => rw [h2] at this; cases this

theorem fit_box {l : List Box} (h : l.length ≤ 1048576) : fit (some l : Sl Box) = true := by
  rw [fit_iff, wt_sl]
  have e : ((Option.getD (some l) []).map Wt.wt).sum = 0 := by
    simp only [Option.getD_some]
    clear h
    induction l with
    | nil => rfl
    | cons a l ih =>
      rw [List.map_cons, List.sum_cons, ih]
      rfl
  rw [e]
  simp only [Option.getD_some]
  omega

theorem fit_ints {l : List Int} (h : l.length ≤ 1048576) : fit (some l : Sl Int) = true := by
  rw [fit_iff, wt_sl]
  have e : ((Option.getD (some l) []).map Wt.wt).sum = 0 := by
    simp only [Option.getD_some]
    clear h
    induction l with
    | nil => rfl
    | cons a l ih =>
      rw [List.map_cons, List.sum_cons, ih]
      rfl
  rw [e]
  simp only [Option.getD_some]
  omega

theorem appO_big {A : Type} (s : Sl A) (a : A) (h : (s.getD []).length ≤ 2000000) : appO s [a] = some (some (s.getD [] ++ [a])) := by
  rw [appO_some (by simp; omega), appS_cons]

/-- A long list that is built by a loop. -/
theorem buildLoopB {A : Type} (l : List A) {n : Nat} (hn : l.length = n) (h1 : n ≤ 2000000) (i0 : Nat) (s0 : Sl A) (hs0 : s0.getD [] = []) (step : ((Sl A) × Int) → Option (Sum ((Sl A) × Int) (Sl A)))
    (next : ∀ (w : Sl A) (k : Nat) a, l[k]? = some a → step (w, ((k + i0 : Nat) : Int)) = obind (appO w [a]) fun _ => some (.inl (appS w [a], wr (((k + i0 : Nat) : Int) + 1))))
    (hi0 : i0 ≤ 1000) (fin : ∀ (w : Sl A), step (w, ((n + i0 : Nat) : Int)) = some (.inr w)) : ∃ q, loopT step (s0, (i0 : Int)) = some q ∧ q.getD [] = l := by
  have h := loopT_ex (step := step) (fun k t => t.1.getD [] = l.take k ∧ t.2 = ((k + i0 : Nat) : Int)) n (fun q => q.getD [] = l)
    (fun k ⟨w, i⟩ hk ⟨g1, g2⟩ => by
      simp only at g1 g2
      subst g2
      obtain ⟨a, ha⟩ : ∃ a, l[k]? = some a := ⟨l[k]'(by omega), List.getElem?_eq_getElem _⟩
      have e := next w k a ha
      have ws : wr (((k + i0 : Nat) : Int) + 1) = ((k + 1 + i0 : Nat) : Int) := by rw [wr_id (by omega) (by omega)]; omega
      rw [ws, appO_big w a (by rw [g1, List.length_take]; omega), obind_sm, appS_cons] at e
      refine .inl ⟨_, e, ?_, rfl⟩
      show w.getD [] ++ [a] = _
      rw [g1, List.take_add_one, ha]
      rfl)
    (fun ⟨w, i⟩ ⟨g1, g2⟩ => by
      simp only at g1 g2
      subst g2
      refine ⟨w, fin w, ?_⟩
      rw [g1, List.take_of_length_le (by omega)])
    (s := (s0, (i0 : Int))) ⟨by rw [hs0, List.take_zero], by simp⟩
  exact h

def bxAt (B : List Box) (i : Int) : Box := B.getD i.toNat ⟨0, 0, 0, 0⟩

def itAt (I : List Int) (k : Nat) : Int := I.getD k 0

theorem itAt_get {I : List Int} {k : Nat} (h : k < I.length) : I[k]? = some (itAt I k) := by
  unfold itAt
  rw [List.getD_eq_getElem?_getD, List.getElem?_eq_getElem h]
  rfl

theorem bxAt_get {B : List Box} {i : Int} (h : isIdx ((B.length : Nat) : Int) i = true) (hv : ∀ b ∈ B, validBox b = true) : getI B i = some (bxAt B i) ∧ BxV (bxAt B i) := by
  unfold isIdx within at h
  simp only [Bool.and_eq_true, decide_eq_true_eq] at h
  obtain ⟨m, rfl⟩ := Int.eq_ofNat_of_zero_le h.1
  have hm : m < B.length := by omega
  have e : B[m]? = some (bxAt B m) := by
    unfold bxAt
    rw [Int.toNat_natCast, List.getD_eq_getElem?_getD, List.getElem?_eq_getElem hm]
    rfl
  exact ⟨getI_nat e, validBox_iff.1 (hv _ (List.mem_of_getElem? e))⟩

/-- How far to the right the first items reach. -/
def mxN (B : List Box) (I : List Int) : Nat → Int
  | 0 => 0
  | k + 1 => max (mxN B I k) (bxAt B (itAt I k)).x2

def gapL (B : List Box) (I : List Int) (k : Nat) : Int := max 0 ((bxAt B (itAt I (k + 1))).x1 - mxN B I (k + 1))

def gapsL (B : List Box) (I : List Int) : List Int := (List.range (I.length - 1)).map (gapL B I)

theorem gapsL_get {B : List Box} {I : List Int} {k : Nat} {a : Int} (h : (gapsL B I)[k]? = some a) : k + 1 < I.length ∧ a = gapL B I k := by
  have hk := get_lt h
  unfold gapsL at hk h
  rw [List.length_map, List.length_range] at hk
  rw [List.getElem?_map, List.getElem?_range hk] at h
  exact ⟨by omega, (Option.some.inj h).symm⟩

theorem mxN_le {B : List Box} {I : List Int} (hv : ∀ b ∈ B, validBox b = true) (hi : ∀ i ∈ I, isIdx ((B.length : Nat) : Int) i = true) : ∀ {k : Nat}, k ≤ I.length → 0 ≤ mxN B I k ∧ mxN B I k ≤ 4095
  | 0, _ => by simp [mxN]
  | k + 1, hk => by
    have ih := mxN_le hv hi (k := k) (by omega)
    obtain ⟨b1, b2, b3, b4, b5, b6⟩ := (bxAt_get (hi _ (List.mem_of_getElem? (itAt_get (I := I) (k := k) (by omega)))) hv).2
    show 0 ≤ max (mxN B I k) _ ∧ max (mxN B I k) _ ≤ 4095
    omega

theorem implGaps_ok {B : List Box} {I : List Int} (hv : ∀ b ∈ B, validBox b = true) (hi : ∀ i ∈ I, isIdx ((B.length : Nat) : Int) i = true) (hl : I.length ≤ 2000000) : ∃ q, t_impl_gapsOf (some B) (some I) = some q ∧ q.getD [] = gapsL B I := by
  have gl : (gapsL B I).length = I.length - 1 := by simp [gapsL]
  obtain ⟨q, e, h⟩ := loopT_ex (step := s0_impl_gapsOf (some B) (some I)) (fun k t => t.1.getD [] = (gapsL B I).take (k - 1) ∧ t.2.1 = mxN B I k ∧ t.2.2 = (k : Int)) I.length (fun q => q.getD [] = gapsL B I)
    (fun k ⟨w, m, i⟩ hk ⟨g1, g2, g3⟩ => by
      simp only at g1 g2 g3
      subst g2 g3
      have c : (k : Int) < ((I.length : Nat) : Int) := by omega
      have gi := getI_nat (itAt_get hk)
      obtain ⟨gb, bv⟩ := bxAt_get (hi _ (List.mem_of_getElem? (itAt_get hk))) hv
      obtain ⟨b1, b2, b3, b4, b5, b6⟩ := bv
      have mb := mxN_le hv hi (k := k) (by omega)
      by_cases k0 : 0 < k
      · have d : (0 : Int) < (k : Int) := by omega
        have w1 : wr ((bxAt B (itAt I k)).x1 - mxN B I k) = (bxAt B (itAt I k)).x1 - mxN B I k := wr_id (by omega) (by omega)
        obtain ⟨j, rfl⟩ : ∃ j, k = j + 1 := ⟨k - 1, by omega⟩
        have ap := appO_big w (max 0 ((bxAt B (itAt I (j + 1))).x1 - mxN B I (j + 1))) (by rw [g1, List.length_take]; omega)
        refine .inl ⟨(some (w.getD [] ++ [gapL B I j]), mxN B I (j + 1 + 1), ((j + 1 + 1 : Nat) : Int)), ?_, ?_, rfl, rfl⟩
        · unfold s0_impl_gapsOf
          simp only [Option.getD_some, c, decide_true, cond_true, gi, gb, obind_sm, d, w1, ap, appS_cons, wr_succ hk (show I.length ≤ 4294967296 by omega)]
          rfl
        · show w.getD [] ++ [gapL B I j] = _
          have e : (gapsL B I)[j]? = some (gapL B I j) := by
            unfold gapsL
            rw [List.getElem?_map, List.getElem?_range (by omega)]
            rfl
          rw [g1, Nat.add_sub_cancel, Nat.add_sub_cancel, List.take_add_one, e]
          rfl
      · have k00 : k = 0 := by omega
        subst k00
        refine .inl ⟨(w, mxN B I (0 + 1), ((0 + 1 : Nat) : Int)), ?_, by simpa using g1, rfl, rfl⟩
        have d : ¬ (0 : Int) < ((0 : Nat) : Int) := by omega
        unfold s0_impl_gapsOf
        simp only [Option.getD_some, c, decide_true, cond_true, gi, gb, obind_sm, d, decide_false, cond_false, wr_succ hk (show I.length ≤ 4294967296 by omega)]
        rfl)
    (fun ⟨w, m, i⟩ ⟨g1, g2, g3⟩ => by
      simp only at g1 g2 g3
      subst g2 g3
      refine ⟨w, ?_, ?_⟩
      · unfold s0_impl_gapsOf
        simp only [Option.getD_some, Int.lt_irrefl, decide_false, cond_false]
      · rw [g1, List.take_of_length_le (by omega)])
    (s := (none, 0, 0)) ⟨by simp, rfl, rfl⟩
  refine ⟨q, ?_, h⟩
  unfold t_impl_gapsOf
  rw [e, obind_sm]

theorem specGaps_ok {B : List Box} {I : List Int} (hv : ∀ b ∈ B, validBox b = true) (hi : ∀ i ∈ I, isIdx ((B.length : Nat) : Int) i = true) (hl : I.length ≤ 2000000) : ∃ q, t_spec_l19Gaps (some B) (some I) = some q ∧ q.getD [] = gapsL B I := by
  have gl : (gapsL B I).length = I.length - 1 := by simp [gapsL]
  have inner : ∀ n, n ≤ I.length → loopT (s1_spec_l19Gaps (some B) (some I) (n : Int)) (0, 0) = some (mxN B I n) := fun n hn => by
    have lp := loopT_at (step := s1_spec_l19Gaps (some B) (some I) (n : Int)) n (fun k => (mxN B I k, (k : Int))) (mxN B I n)
      (fun k hk => by
        have c : (k : Int) < (n : Int) := by omega
        have gi := getI_nat (itAt_get (I := I) (k := k) (by omega))
        obtain ⟨gb, _⟩ := bxAt_get (hi _ (List.mem_of_getElem? (itAt_get (I := I) (k := k) (by omega)))) hv
        unfold s1_spec_l19Gaps
        simp only [Option.getD_some, c, decide_true, cond_true, gi, gb, obind_sm, wr_succ hk (show n ≤ 4294967296 by omega)]
        rfl)
      (by
        unfold s1_spec_l19Gaps
        simp only [Int.lt_irrefl, decide_false, cond_false])
      0 (Nat.zero_le _)
    exact lp
  obtain ⟨q, e, hq⟩ := buildLoopB (gapsL B I) (n := I.length - 1) gl (by omega) 1 (some []) rfl (s0_spec_l19Gaps (some B) (some I)) (fun w k a ha => by
    obtain ⟨hk, rfl⟩ := gapsL_get ha
    have c : ((k + 1 : Nat) : Int) < ((I.length : Nat) : Int) := by omega
    have gi := getI_nat (itAt_get hk)
    obtain ⟨gb, bv⟩ := bxAt_get (hi _ (List.mem_of_getElem? (itAt_get hk))) hv
    obtain ⟨b1, b2, b3, b4, b5, b6⟩ := bv
    have mb := mxN_le hv hi (k := k + 1) (by omega)
    have w1 : wr ((bxAt B (itAt I (k + 1))).x1 - mxN B I (k + 1)) = (bxAt B (itAt I (k + 1))).x1 - mxN B I (k + 1) := wr_id (by omega) (by omega)
    unfold s0_spec_l19Gaps
    simp only [Option.getD_some, c, decide_true, cond_true, inner (k + 1) (by omega), gi, gb, obind_sm, w1]
    rfl) (by omega) (fun w => by
    unfold s0_spec_l19Gaps
    by_cases z : I.length = 0
    · have c : ¬ ((I.length - 1 + 1 : Nat) : Int) < ((I.length : Nat) : Int) := by omega
      simp only [Option.getD_some, c, decide_false, cond_false]
    · have c : ¬ ((I.length - 1 + 1 : Nat) : Int) < ((I.length : Nat) : Int) := by omega
      simp only [Option.getD_some, c, decide_false, cond_false])
  have e' : loopT (s0_spec_l19Gaps (some B) (some I)) (some [], 1) = some q := e
  refine ⟨q, ?_, hq⟩
  unfold t_spec_l19Gaps
  rw [e', obind_sm]

/-- The rows of a table. -/
def rowsL (s : Sl (Sl Int)) : List (List Int) := (s.getD []).map fun a => a.getD []

theorem rowsL_len (s : Sl (Sl Int)) : (rowsL s).length = (s.getD []).length := by simp [rowsL]

theorem rowsL_get {s : Sl (Sl Int)} {k : Nat} {r : List Int} (h : (rowsL s)[k]? = some r) : ∃ a, (s.getD [])[k]? = some a ∧ a.getD [] = r := by
  unfold rowsL at h
  rw [List.getElem?_map] at h
  cases e : (s.getD [])[k]? with
  | none => rw [e] at h; cases h
  | some a => rw [e] at h; exact ⟨a, rfl, Option.some.inj h⟩

theorem eqSS_ok {a b : Sl (Sl Int)} (h : rowsL a = rowsL b) (hl : (rowsL a).length ≤ 4294967296) (hr : ∀ r ∈ rowsL a, r.length ≤ 4294967296) : t_laws_eqInt64SS a b = some true := by
  have ll : (a.getD []).length = (b.getD []).length := by rw [← rowsL_len, ← rowsL_len, h]
  rw [rowsL_len] at hl
  have lp := loopT_first (step := s0_laws_eqInt64SS a b) (a.getD []) (fun _ _ => (none : Option Bool)) (.inl ()) .inr
    (fun k x hx => by
      have hk := get_lt hx
      have c : (k : Int) < ((a.getD []).length : Nat) := by omega
      have hR : (rowsL a)[k]? = some (x.getD []) := by
        unfold rowsL
        rw [List.getElem?_map, hx]
        rfl
      obtain ⟨y, hy, e⟩ := rowsL_get (h ▸ hR)
      have q := eqI_ok (a := x) (b := y) e.symm (hr _ (List.mem_of_getElem? hR))
      unfold s0_laws_eqInt64SS
      simp only [c, decide_true, cond_true, getI_nat hx, getI_nat hy, obind_sm, q, Bool.not_true, cond_false, wr_succ hk hl])
    (by
      unfold s0_laws_eqInt64SS
      simp only [Int.lt_irrefl, decide_false, cond_false])
  rw [firstL_none (fun _ _ _ => rfl)] at lp
  unfold t_laws_eqInt64SS
  rw [lp, ← ll]
  simp

theorem held_k {s : Sl Int} {n : Nat} {k : Int} (h0 : 0 ≤ k) (hs : s.getD [] = mkI k n) (hn : k + n ≤ 1000000000) : t_laws_heldInt64S s k = some (k + (n : Int)) := by
  have lp := loopT_at (step := s0_laws_heldInt64S s) n (fun j => (k + (j : Int), (j : Int))) (.inl (k + (n : Int)))
    (fun j hk => by
      have c : (j : Int) < (((mkI k n).length : Nat) : Int) := by rw [mkI_len]; omega
      have ws := wr_succ hk (show n ≤ 4294967296 by omega)
      have w2 : wr (k + (j : Int) + 1) = k + ((j + 1 : Nat) : Int) := by rw [wr_id (by omega) (by omega)]; omega
      unfold s0_laws_heldInt64S
      simp only [hs, c, decide_true, cond_true, getI_nat (mkI_get n k j hk), obind_sm, Bool.not_true, cond_false, ws, w2])
    (by
      have c : ¬ (n : Int) < (((mkI k n).length : Nat) : Int) := by rw [mkI_len]; omega
      unfold s0_laws_heldInt64S
      simp only [hs, c, decide_false, cond_false])
    0 (Nat.zero_le _)
  have lp' : loopT (s0_laws_heldInt64S s) (k, 0) = some (.inl (k + (n : Int))) := by
    simpa using lp
  unfold t_laws_heldInt64S
  rw [lp', obind_sm]

def totL (l : List (Sl Int)) : Nat := (l.map fun a => (a.getD []).length).sum

/-- Marks and what is held. -/
theorem mkL_ok : ∀ (l : List (Sl Int)) (k : Int), 0 ≤ k → k + totL l ≤ 1000000000 → ∃ l', mkL l k = some (k + totL l, l') ∧ l'.length = l.length ∧ ∀ (i : Nat) (k' : Int) , k' = k + totL (l.take i) → i < l.length → ∃ a, l'[i]? = some a ∧ t_laws_heldInt64S a k' = some (k + totL (l.take (i + 1)))
  | [], k, _, _ => ⟨[], by simp [mkL, totL], rfl, fun i _ _ h => by simp at h⟩
  | a :: l, k, h0, h1 => by
    have e : totL (a :: l) = (a.getD []).length + totL l := by simp [totL]
    rw [e] at h1
    have m1 : t_laws_markInt64S a k = some (k + 1 * (((a.getD []).length : Nat) : Int), a.map fun l => mkI k l.length) := by
      unfold t_laws_markInt64S
      have d1 : decide ((0 : Int) ≤ k) = true := decide_eq_true h0
      have d2 : decide (k + 1 * (((a.getD []).length : Nat) : Int) ≤ 1000000000) = true := decide_eq_true (by omega)
      rw [d1, d2]
      rfl
    have hv : (a.map fun l => mkI k l.length).getD [] = mkI k (a.getD []).length := by cases a <;> rfl
    have hh := held_k h0 hv (by omega)
    obtain ⟨l', g1, g2, g3⟩ := mkL_ok l (k + 1 * (((a.getD []).length : Nat) : Int)) (by omega) (by omega)
    refine ⟨(a.map fun l => mkI k l.length) :: l', ?_, by simp [g2], fun i k' hk hi => ?_⟩
    · simp only [mkL, m1, obind_sm, g1]
      rw [e]
      congr 2
      omega
    · cases i with
      | zero =>
        refine ⟨_, rfl, ?_⟩
        have : k' = k := by simpa [totL] using hk
        rw [this, hh]
        simp [totL]
      | succ i =>
        have t1 : ∀ j, totL ((a :: l).take (j + 1)) = (a.getD []).length + totL (l.take j) := fun j => by simp [totL]
        obtain ⟨y, y1, y2⟩ := g3 i k' (by rw [hk, t1]; omega) (by simpa using hi)
        refine ⟨y, by simpa using y1, ?_⟩
        rw [y2, t1]
        congr 1
        omega

theorem marksSS (g : Sl (Sl Int)) (hl : (g.getD []).length ≤ 4294967296) (ht : totL (g.getD []) ≤ 900000000) : ∃ v r, t_laws_markInt64SS g 1 = some (r, v) ∧ t_laws_heldInt64SS v 1 = some r ∧ 0 ≤ r := by
  obtain ⟨l', g1, g2, g3⟩ := mkL_ok (g.getD []) 1 (by omega) (by omega)
  have hm : ∃ v, t_laws_markInt64SS g 1 = some (1 + (totL (g.getD []) : Int), v) ∧ v.getD [] = l' := by
    unfold t_laws_markInt64SS
    have d : decide ((g.getD []).length ≤ 4294967296) = true := decide_eq_true hl
    rw [d]
    cases g with
    | none =>
      refine ⟨none, rfl, ?_⟩
      cases g1
      rfl
    | some l =>
      have g1' : mkL l 1 = some (1 + (totL l : Int), l') := g1
      refine ⟨some l', ?_, rfl⟩
      simp only [cond_true, g1', obind_sm]
      rfl
  obtain ⟨v, m1, m2⟩ := hm
  refine ⟨v, _, m1, ?_, by omega⟩
  have lp := loopT_at (step := s0_laws_heldInt64SS v) (g.getD []).length (fun j => (1 + (totL ((g.getD []).take j) : Int), (j : Int))) (.inl (1 + (totL (g.getD []) : Int)))
    (fun j hk => by
      obtain ⟨y, y1, y2⟩ := g3 j _ rfl hk
      have c : (j : Int) < (((v.getD []).length : Nat) : Int) := by rw [m2, g2]; omega
      have c2 : decide (1 + (totL ((g.getD []).take (j + 1)) : Int) < 0) = false := decide_eq_false (by omega)
      rw [← m2] at y1
      unfold s0_laws_heldInt64SS
      simp only [c, decide_true, cond_true, getI_nat y1, obind_sm, y2, c2, cond_false, wr_succ hk hl])
    (by
      have c : ¬ (((g.getD []).length : Nat) : Int) < (((v.getD []).length : Nat) : Int) := by rw [m2, g2]; omega
      unfold s0_laws_heldInt64SS
      simp only [c, decide_false, cond_false, List.take_length])
    0 (Nat.zero_le _)
  have lp' : loopT (s0_laws_heldInt64SS v) (1, 0) = some (.inl (1 + (totL (g.getD []) : Int))) := by
    simpa [totL] using lp
  unfold t_laws_heldInt64SS
  rw [lp', obind_sm]

/-- The words of a line. -/
def wds (I g : List Int) (gap : Int) : Nat → List (List Int)
  | 0 => []
  | k + 1 => bif decide (k = 0) || decide (gap < itAt g (k - 1)) then wds I g gap k ++ [[itAt I k]] else (wds I g gap k).dropLast ++ [((wds I g gap k).getLast?.getD []) ++ [itAt I k]]

theorem wds_ne (I g : List Int) (gap : Int) (k : Nat) : wds I g gap (k + 1) ≠ [] := by
  unfold wds
  cases decide (k = 0) || decide (gap < itAt g (k - 1)) <;> simp

theorem wds_tot (I g : List Int) (gap : Int) : ∀ k, ((wds I g gap k).map List.length).sum = k ∧ (wds I g gap k).length ≤ k
  | 0 => by simp [wds]
  | k + 1 => by
    obtain ⟨h1, h2⟩ := wds_tot I g gap k
    unfold wds
    cases c : decide (k = 0) || decide (gap < itAt g (k - 1)) with
    | true =>
      rw [cond_true]
      refine ⟨by simp [h1], by simp; omega⟩
    | false =>
      rw [cond_false]
      rcases List.eq_nil_or_concat (wds I g gap k) with e | ⟨R, r, e⟩
      · rw [e] at h1 ⊢
        simp at h1
        subst h1
        simp at c
      · rw [e] at h1 h2 ⊢
        simp at h1 h2 ⊢
        omega

/-- The last row grows. -/
theorem grow {s : Sl (Sl Int)} {R : List (List Int)} {r : List Int} (x : Int) (h : rowsL s = R ++ [r]) (hl : R.length ≤ 2000000) (hr : r.length ≤ 2000000) : ∃ a, getI (s.getD []) (wr ((((s.getD []).length : Nat) : Int) - 1)) = some a ∧ appO a [x] = some (appS a [x]) ∧ rowsL (setS s (wr ((((s.getD []).length : Nat) : Int) - 1)) (appS a [x])) = R ++ [r ++ [x]] := by
  have e : (s.getD []).length = R.length + 1 := by rw [← rowsL_len, h]; simp
  have w : wr ((((s.getD []).length : Nat) : Int) - 1) = ((R.length : Nat) : Int) := by
    rw [e, wr_id (by omega) (by omega)]
    omega
  have g : (rowsL s)[R.length]? = some r := by rw [h]; simp
  obtain ⟨a, ha, hr2⟩ := rowsL_get g
  refine ⟨a, by rw [w]; exact getI_nat ha, ?_, ?_⟩
  · rw [appO_some]
    rw [hr2]
    simp
    omega
  · rw [w]
    cases s with
    | none => simp [rowsL] at h
    | some l =>
      simp only [setS, rowsL, Option.map_some, Option.getD_some, Int.toNat_natCast, List.map_set] at *
      rw [h, appS_getD, hr2]
      simp

theorem rowsL_app (s : Sl (Sl Int)) (a : Sl Int) : rowsL (appS s [a]) = rowsL s ++ [a.getD []] := by
  unfold rowsL
  rw [appS_getD]
  simp

theorem specWords_ok {B : List Box} {I : List Int} {gap : Int} (hv : ∀ b ∈ B, validBox b = true) (hi : ∀ i ∈ I, isIdx ((B.length : Nat) : Int) i = true) (hl : I.length ≤ 1048576) : ∃ q, t_spec_l19Words (some B) (some I) gap = some q ∧ rowsL q = wds I (gapsL B I) gap I.length := by
  obtain ⟨g, e1, hg⟩ := specGaps_ok hv hi (by omega)
  have gl : (gapsL B I).length = I.length - 1 := by simp [gapsL]
  obtain ⟨q, e2, hq⟩ := loopT_ex (step := s0_spec_l19Words (some I) gap g) (fun k t => rowsL t.1 = wds I (gapsL B I) gap k ∧ t.2 = (k : Int)) I.length (fun q => rowsL q = wds I (gapsL B I) gap I.length)
    (fun k ⟨w, i⟩ hk ⟨h1, h2⟩ => by
      simp only at h1 h2
      subst h2
      have c : (k : Int) < ((I.length : Nat) : Int) := by omega
      have gi := getI_nat (itAt_get hk)
      obtain ⟨t1, t2⟩ := wds_tot I (gapsL B I) gap k
      have cnd : obind (bif decide ((k : Int) = 0) then some false else (obind (getI (g.getD []) (wr ((k : Int) - 1))) fun a27 => some (decide (gap < a27)))) (fun c31 => some (bif decide ((k : Int) = 0) then true else c31)) = some (decide (k = 0) || decide (gap < itAt (gapsL B I) (k - 1))) := by
        by_cases k0 : k = 0
        · subst k0
          rfl
        · have d : decide ((k : Int) = 0) = false := decide_eq_false (by omega)
          have w1 : wr ((k : Int) - 1) = ((k - 1 : Nat) : Int) := by rw [wr_id (by omega) (by omega)]; omega
          have gg := getI_nat (itAt_get (I := gapsL B I) (k := k - 1) (by omega))
          rw [d, cond_false, hg, w1, gg]
          simp [k0]
      cases cc : (bif decide ((k : Int) = 0) then some false else (obind (getI (g.getD []) (wr ((k : Int) - 1))) fun a27 => some (decide (gap < a27)))) with
      | none => rw [cc] at cnd; cases cnd
      | some c31 =>
        rw [cc, obind_sm] at cnd
        have cnd := Option.some.inj cnd
        unfold s0_spec_l19Words
        simp only [Option.getD_some, c, decide_true, cond_true, cc, obind_sm, cnd, gi]
        cases bb : decide (k = 0) || decide (gap < itAt (gapsL B I) (k - 1)) with
        | true =>
          have hR := rowsL_app w (some [])
          rw [h1] at hR
          obtain ⟨a, f1, f2, f3⟩ := grow (itAt I k) hR (by omega) (by simp)
          have ap : appO w [(some [] : Sl Int)] = some (appS w [some []]) := by
            rw [appO_some]
            rw [← rowsL_len, h1]
            simp
            omega
          refine .inl ⟨_, by simp only [cond_true, ap, obind_sm, f1, f2, wr_succ hk (show I.length ≤ 4294967296 by omega)]; rfl, ?_, rfl⟩
          unfold wds
          rw [bb, cond_true]
          exact f3
        | false =>
          have k0 : k ≠ 0 := fun h => by subst h; simp at bb
          obtain ⟨j, rfl⟩ : ∃ j, k = j + 1 := ⟨k - 1, by omega⟩
          rcases List.eq_nil_or_concat (wds I (gapsL B I) gap (j + 1)) with e | ⟨R, r, e⟩
          · exact absurd e (wds_ne _ _ _ _)
          · have e' : wds I (gapsL B I) gap (j + 1) = R ++ [r] := by rw [e, List.concat_eq_append]
            rw [e'] at h1 t1 t2
            simp at t1 t2
            obtain ⟨a, f1, f2, f3⟩ := grow (itAt I (j + 1)) h1 (by omega) (by omega)
            refine .inl ⟨_, by simp only [cond_false, f1, obind_sm, f2, wr_succ hk (show I.length ≤ 4294967296 by omega)]; rfl, ?_, rfl⟩
            rw [wds, bb, cond_false, e']
            simpa using f3)
    (fun ⟨w, i⟩ ⟨h1, h2⟩ => by
      simp only at h1 h2
      subst h2
      refine ⟨w, ?_, h1⟩
      unfold s0_spec_l19Words
      simp only [Option.getD_some, Int.lt_irrefl, decide_false, cond_false])
    (s := (some [], 0)) ⟨rfl, rfl⟩
  refine ⟨q, ?_, hq⟩
  unfold t_spec_l19Words
  rw [e1, obind_sm, e2, obind_sm]

theorem implWords_ok {B : List Box} {I : List Int} {gap : Int} (hv : ∀ b ∈ B, validBox b = true) (hi : ∀ i ∈ I, isIdx ((B.length : Nat) : Int) i = true) (hl : I.length ≤ 1048576) : ∃ q, t_impl_wordsOfLine (some B) (some I) gap = some q ∧ rowsL q = wds I (gapsL B I) gap I.length := by
  obtain ⟨g, e1, hg⟩ := implGaps_ok hv hi (by omega)
  have gl : (gapsL B I).length = I.length - 1 := by simp [gapsL]
  obtain ⟨q, e2, hq⟩ := loopT_ex (step := s0_impl_wordsOfLine (some I) gap g) (fun k t => rowsL t.1 = wds I (gapsL B I) gap k ∧ t.2 = (k : Int)) I.length (fun q => rowsL q = wds I (gapsL B I) gap I.length)
    (fun k ⟨w, i⟩ hk ⟨h1, h2⟩ => by
      simp only at h1 h2
      subst h2
      have c : (k : Int) < ((I.length : Nat) : Int) := by omega
      have gi := getI_nat (itAt_get hk)
      obtain ⟨t1, t2⟩ := wds_tot I (gapsL B I) gap k
      have cnd : obind (bif decide ((k : Int) = 0) then some false else (obind (getI (g.getD []) (wr ((k : Int) - 1))) fun a27 => some (decide (gap < a27)))) (fun c31 => some (bif decide ((k : Int) = 0) then true else c31)) = some (decide (k = 0) || decide (gap < itAt (gapsL B I) (k - 1))) := by
        by_cases k0 : k = 0
        · subst k0
          rfl
        · have d : decide ((k : Int) = 0) = false := decide_eq_false (by omega)
          have w1 : wr ((k : Int) - 1) = ((k - 1 : Nat) : Int) := by rw [wr_id (by omega) (by omega)]; omega
          have gg := getI_nat (itAt_get (I := gapsL B I) (k := k - 1) (by omega))
          rw [d, cond_false, hg, w1, gg]
          simp [k0]
      cases cc : (bif decide ((k : Int) = 0) then some false else (obind (getI (g.getD []) (wr ((k : Int) - 1))) fun a27 => some (decide (gap < a27)))) with
      | none => rw [cc] at cnd; cases cnd
      | some c31 =>
        rw [cc, obind_sm] at cnd
        have cnd := Option.some.inj cnd
        unfold s0_impl_wordsOfLine
        simp only [Option.getD_some, c, decide_true, cond_true, cc, obind_sm, cnd, gi]
        cases bb : decide (k = 0) || decide (gap < itAt (gapsL B I) (k - 1)) with
        | true =>
          have hR := rowsL_app w none
          rw [h1] at hR
          obtain ⟨a, f1, f2, f3⟩ := grow (itAt I k) hR (by omega) (by simp)
          have ap : appO w [(none : Sl Int)] = some (appS w [none]) := by
            rw [appO_some]
            rw [← rowsL_len, h1]
            simp
            omega
          refine .inl ⟨_, by simp only [cond_true, ap, obind_sm, f1, f2, wr_succ hk (show I.length ≤ 4294967296 by omega)]; rfl, ?_, rfl⟩
          unfold wds
          rw [bb, cond_true]
          exact f3
        | false =>
          have k0 : k ≠ 0 := fun h => by subst h; simp at bb
          obtain ⟨j, rfl⟩ : ∃ j, k = j + 1 := ⟨k - 1, by omega⟩
          rcases List.eq_nil_or_concat (wds I (gapsL B I) gap (j + 1)) with e | ⟨R, r, e⟩
          · exact absurd e (wds_ne _ _ _ _)
          · have e' : wds I (gapsL B I) gap (j + 1) = R ++ [r] := by rw [e, List.concat_eq_append]
            rw [e'] at h1 t1 t2
            simp at t1 t2
            obtain ⟨a, f1, f2, f3⟩ := grow (itAt I (j + 1)) h1 (by omega) (by omega)
            refine .inl ⟨_, by simp only [cond_false, f1, obind_sm, f2, wr_succ hk (show I.length ≤ 4294967296 by omega)]; rfl, ?_, rfl⟩
            rw [wds, bb, cond_false, e']
            simpa using f3)
    (fun ⟨w, i⟩ ⟨h1, h2⟩ => by
      simp only at h1 h2
      subst h2
      refine ⟨w, ?_, h1⟩
      unfold s0_impl_wordsOfLine
      simp only [Option.getD_some, Int.lt_irrefl, decide_false, cond_false])
    (s := (none, 0)) ⟨rfl, rfl⟩
  refine ⟨q, ?_, hq⟩
  unfold t_impl_wordsOfLine
  rw [e1, obind_sm, e2, obind_sm]

theorem rows_small {L : List (List Int)} (h : (L.map List.length).sum ≤ 1048576) : ∀ r ∈ L, r.length ≤ 4294967296 := fun r hr => by
  have : ∀ (L : List (List Int)), r ∈ L → r.length ≤ (L.map List.length).sum := by
    intro L
    induction L with
    | nil => intro h; cases h
    | cons a L ih =>
      intro h
      rw [List.map_cons, List.sum_cons]
      rcases List.mem_cons.1 h with e | e
      · rw [e]
        omega
      · have := ih e
        omega
  have := this L hr
  omega

theorem totL_rows (s : Sl (Sl Int)) : totL (s.getD []) = ((rowsL s).map List.length).sum := by
  unfold totL rowsL
  rw [List.map_map]
  rfl

theorem words_ok (B : List Box) (I : List Int) (gap : Int) (hB : B.length ≤ 1048576) (hI : I.length ≤ 1048576) : ∃ g w n, t_impl_WordsOfLine (some B) (some I) gap = some (g, n) ∧ t_spec_WordsOfLine (some B) (some I) gap = some (w, n) ∧ rowsL g = rowsL w ∧ (rowsL g).length ≤ 1048576 ∧ ((rowsL g).map List.length).sum ≤ 1048576 := by
  have p1 := isPage_ok (some B) (by simp only [Option.getD_some]; omega)
  have p2 := l19Boxes_ok (some B) (by simp only [Option.getD_some]; omega)
  have io : itemsO (some B) (some I) = some ((I.all (isIdx ((B.length : Nat) : Int))) && ordB (leftB B) I) := by
    unfold itemsO
    rw [fit_box hB, fit_ints hI]
    rfl
  unfold t_impl_WordsOfLine t_spec_WordsOfLine t_impl_areItems t_spec_l19Items t_impl_isGap t_spec_l19Gap
  rw [p1, p2, io]
  simp only [Option.getD_some, obind_sm]
  cases h1 : pageB B with
  | false => exact ⟨_, _, _, rfl, rfl, rfl, by simp [rowsL], by simp [rowsL]⟩
  | true =>
    cases h2 : (I.all (isIdx ((B.length : Nat) : Int))) && ordB (leftB B) I with
    | false =>
      cases h3 : within gap 0 4095 with
      | false => exact ⟨_, _, _, rfl, rfl, rfl, by simp [rowsL], by simp [rowsL]⟩
      | true => exact ⟨_, _, _, rfl, rfl, rfl, by simp [rowsL], by simp [rowsL]⟩
    | true =>
      cases h3 : within gap 0 4095 with
      | false => exact ⟨_, _, _, rfl, rfl, rfl, by simp [rowsL], by simp [rowsL]⟩
      | true =>
        rw [Bool.and_eq_true] at h2
        have hi : ∀ i ∈ I, isIdx ((B.length : Nat) : Int) i = true := fun i hm => List.all_eq_true.1 h2.1 i hm
        obtain ⟨_, hv⟩ := pageB_true h1
        obtain ⟨q, e1, q1⟩ := implWords_ok (gap := gap) hv hi (by omega)
        obtain ⟨r, e2, q2⟩ := specWords_ok (gap := gap) hv hi (by omega)
        obtain ⟨t1, t2⟩ := wds_tot I (gapsL B I) gap I.length
        refine ⟨q, r, 0, ?_, ?_, by rw [q1, q2], by rw [q1]; omega, by rw [q1, t1]; omega⟩
        · simp only [Bool.not_true, cond_false, obind_sm, e1]
        · simp only [Bool.not_true, cond_false, obind_sm, e2]

theorem true_FnExactWordsOfLine (a : Sl Box) (b : Sl Int) (gap : Int) (ha : (a.getD []).length ≤ maxLen) (hb : (b.getD []).length ≤ maxLen) : t_laws_FnExactWordsOfLine a b gap = some true := by
  rw [maxLen_eq] at ha hb
  unfold t_laws_FnExactWordsOfLine
  by_cases c0 : 1048576 < (((b.getD []).length : Nat) : Int)
  · have d0 : decide (1048576 < (((b.getD []).length : Nat) : Int)) = true := decide_eq_true c0
    rw [d0, cond_true]
  have d0 : decide (1048576 < (((b.getD []).length : Nat) : Int)) = false := decide_eq_false c0
  rw [d0, cond_false]
  have ws : wr (1048576 - (((a.getD []).length : Nat) : Int)) = 1048576 - (((a.getD []).length : Nat) : Int) := wr_id (by omega) (by omega)
  by_cases c1 : 1048576 - (((a.getD []).length : Nat) : Int) < 0
  · have sz : t_laws_szBoxS a 1048576 = some (-1) := by
      unfold t_laws_szBoxS
      rw [ws]
      simp [c1]
    rw [sz, obind_sm]
    rfl
  have sz : t_laws_szBoxS a 1048576 = some (1048576 - (((a.getD []).length : Nat) : Int)) := by
    unfold t_laws_szBoxS
    rw [ws]
    simp [c1]
  have d1 : decide (1048576 - (((a.getD []).length : Nat) : Int) < 0) = false := decide_eq_false c1
  rw [sz, obind_sm, d1, cond_false]
  obtain ⟨B, hB⟩ : ∃ B, a.getD [] = B := ⟨_, rfl⟩
  obtain ⟨I, hI⟩ : ∃ I, b.getD [] = I := ⟨_, rfl⟩
  have tb := toBoxS_ok a (by omega)
  have ti := toInt64S_ok b (by omega)
  rw [hB] at tb c1 ha
  rw [hI] at ti c0 hb
  obtain ⟨g, w, n, G1, G2, hgw, hgl, hgt⟩ := words_ok B I gap (by omega) (by omega)
  have E1 := eqSS_ok hgw (by omega) (rows_small hgt)
  have E2 := eqB_ok (a := some B) (b := some B) rfl (by simp only [Option.getD_some]; omega)
  have E3 := eqI_ok (a := some I) (b := some I) rfl (by simp only [Option.getD_some]; omega)
  have M1 : t_laws_markBoxS (some B) 1 = some (1 + 4 * ((B.length : Nat) : Int), some (mkB 1 B.length)) := by
    unfold t_laws_markBoxS
    have d1 : decide ((0 : Int) ≤ 1) = true := by decide
    have d2 : decide (1 + 4 * ((((some B : Sl Box).getD []).length : Nat) : Int) ≤ 1000000000) = true := decide_eq_true (by simp only [Option.getD_some]; omega)
    rw [d1, d2]
    rfl
  have M2 : t_laws_markInt64S (some I) (1 + 4 * ((B.length : Nat) : Int)) = some (1 + 4 * ((B.length : Nat) : Int) + 1 * ((I.length : Nat) : Int), some (mkI (1 + 4 * ((B.length : Nat) : Int)) I.length)) := by
    unfold t_laws_markInt64S
    have d1 : decide ((0 : Int) ≤ 1 + 4 * ((B.length : Nat) : Int)) = true := decide_eq_true (by omega)
    have d2 : decide (1 + 4 * ((B.length : Nat) : Int) + 1 * ((((some I : Sl Int).getD []).length : Nat) : Int) ≤ 1000000000) = true := decide_eq_true (by simp only [Option.getD_some]; omega)
    rw [d1, d2]
    rfl
  obtain ⟨v, r, M3, H, r0⟩ := marksSS g (by rw [← rowsL_len]; omega) (by rw [totL_rows]; omega)
  have z1 : decide (1 + 4 * ((B.length : Nat) : Int) + 1 * ((I.length : Nat) : Int) < 0) = false := decide_eq_false (by omega)
  have z2 : decide (r < 0) = false := decide_eq_false (by omega)
  simp only [tb, ti, obind_sm, G1, G2, E1, E2, E3, decide_true, Bool.not_true, cond_false, M1, M2, z1, M3, H, z2]

theorem ok_laws_FnExactWordsOfLine : PureOK Try.prog n_laws_FnExactWordsOfLine (G3 (fun (a : Sl Box) (b : Sl Int) (_ : Int) => Wt.big a && Wt.big b) fun _ _ _ => bv true) := lawC3 tt_laws_FnExactWordsOfLine fun a b g h => by
  rw [Bool.and_eq_true] at h
  exact true_FnExactWordsOfLine a b g (big_len h.1) (big_len h.2)

theorem law_FnExactWordsOfLine (a : Sl Box) (b : Sl Int) (g : Int) (ha : Row.fine a) (hb : Row.fine b) (_ : Row.fine g) : G3 (fun (a : Sl Box) (b : Sl Int) (_ : Int) => Wt.big a && Wt.big b) (fun _ _ _ => bv true) [enc a, enc b, enc g] = some (bv true) := G3_enc _ _ a b g (by simp [Wt.fb a ha, Wt.fb b hb])

theorem isC_2 {cs : List AV} (h : IsC Try.prog 2 cs) : ∃ x : Int, cs = Row.cells x ∧ Row.fine x := by
  obtain ⟨n, rfl, hn⟩ := IsC.intE Try.underlying2 h
  exact ⟨n, rfl, fine_int hn⟩
theorem isC_74 {cs : List AV} (h : IsC Try.prog 74 cs) : ∃ x : Box, cs = Row.cells x ∧ Row.fine x := by
  replace h := IsC.structE Try.underlying74 h
  obtain ⟨c0, r0, rfl, q0, k0⟩ := IsFs.consE h
  obtain ⟨c1, r1, rfl, q1, k1⟩ := IsFs.consE k0
  obtain ⟨c2, r2, rfl, q2, k2⟩ := IsFs.consE k1
  obtain ⟨c3, r3, rfl, q3, k3⟩ := IsFs.consE k2
  cases IsFs.nilE k3
  obtain ⟨v0, rfl, w0⟩ := isC_2 q0
  obtain ⟨v1, rfl, w1⟩ := isC_2 q1
  obtain ⟨v2, rfl, w2⟩ := isC_2 q2
  obtain ⟨v3, rfl, w3⟩ := isC_2 q3
  exact ⟨⟨v0, v1, v2, v3⟩, rfl, w0, w1, w2, w3⟩
theorem isC_22 {cs : List AV} (h : IsC Try.prog 22 cs) : ∃ x : (Sl Box), cs = Row.cells x ∧ Row.fine x := by
  rcases IsC.sliceE Try.underlying22 h with rfl | ⟨rows, rfl, h1, h2⟩
  · exact ⟨none, rfl, Sl.fineNil⟩
  · exact Sl.isC (by kernel_rfl) h1 fun row hr => isC_74 (h2 row hr)
theorem isC_23 {cs : List AV} (h : IsC Try.prog 23 cs) : ∃ x : (Sl Int), cs = Row.cells x ∧ Row.fine x := by
  rcases IsC.sliceE Try.underlying23 h with rfl | ⟨rows, rfl, h1, h2⟩
  · exact ⟨none, rfl, Sl.fineNil⟩
  · exact Sl.isC (by kernel_rfl) h1 fun row hr => isC_2 (h2 row hr)
theorem own : ownKnob Try.prog.godebug = none := by kernel_rfl
theorem laidOut : laidOutB Try.prog = true := by kernel_rfl

set_option maxRecDepth 100000 in
theorem holds : Rows.FnExactWordsOfLineSaid :=
  OpenClaim.holds_of_wide 3 Try.f3 rfl rfl rfl rfl rfl rfl rfl ⟨rfl, rfl, rfl, rfl, rfl⟩ rfl rfl rfl rfl rfl (by kernel_rfl) Try.func3 (by kernel_rfl)
    (of_decide_eq_true (by kernel_rfl)) (by unfold Func.isWrapper; rw [if_neg (by decide +kernel)]; exact ⟨rfl, rfl⟩)
    (fun os started H enc _ => law_lifted (C := Try.checked) (s := Rows.fnExactWordsOfLineSpec) own started (by kernel_rfl) Try.func3
      (ChangeSpec.witness6 (enc := enc) (C := Try.checked) false ⟨#[], #[.slice none 0 0, .slice none 0 0, .int .i64 0], []⟩ 8 (by kernel_rfl) (by kernel_rfl) (by kernel_rfl) (by kernel_rfl))
      laidOut rfl (tb := 4) rfl Try.underlying4 (ts := [22, 74, 2, 23]) (by kernel_rfl)
      (fun ds h => by match ds, h with | [d0, d1, d2], _ => rfl)
      hb_laws_FnExactWordsOfLine ok_laws_FnExactWordsOfLine (by
    intro l h
    obtain ⟨a0, l0, rfl, g0, k0⟩ := h
    obtain ⟨a1, l1, rfl, g1, k1⟩ := k0
    obtain ⟨a2, l2, rfl, g2, k2⟩ := k1
    cases k2
    obtain ⟨b0, e0, w0⟩ := isC_22 (isV_one (by kernel_rfl) g0)
    obtain rfl := one_enc e0
    obtain ⟨b1, e1, w1⟩ := isC_23 (isV_one (by kernel_rfl) g1)
    obtain rfl := one_enc e1
    obtain ⟨b2, e2, w2⟩ := isC_2 (isV_one (by kernel_rfl) g2)
    obtain rfl := one_enc e2
    exact law_FnExactWordsOfLine b0 b1 b2 w0 w1 w2))
#print axioms holds
end Go.Proofs.Ytkjdabdjkmbdjaa
