/-
  Functions that the law FnExactCountModel reaches: their walks and contracts, part 1.
-/
import Derived.Test.YtokbncnochagaaaFnExactCountModelGen
namespace Go.Proofs.Ytokbncnochagaaa
open Go Go.Eng Go.Eng.Cod
set_option maxRecDepth 100000
set_option linter.unusedVariables false
set_option linter.unusedSimpArgs false

theorem nil_ok : EnvOK Try.prog (envL []) := E0

def within (a b c : Int) : Bool := decide (b ≤ a) && decide (a ≤ c)

theorem ok_impl_within : PureOK Try.prog n_impl_within (T3 within) := pureT3 nil_ok mixed hb_impl_within fun a b c => by
  simp [e_impl_within, within]

theorem ok_spec_l00In : PureOK Try.prog n_spec_l00In (T3 within) := pureT3 nil_ok mixed hb_spec_l00In fun a b c => by
  simp [e_spec_l00In, within]

theorem ok_spec_l00Max : PureOK Try.prog n_spec_l00Max (T2 fun a b : Int => max a b) := pureT2 nil_ok mixed hb_spec_l00Max fun a b => by
  simp [e_spec_l00Max, maxI]

def validBox (b : Box) : Bool := within b.x1 0 b.x2 && within b.y1 0 b.y2 && decide (b.x2 ≤ 4095) && decide (b.y2 ≤ 4095)

theorem ok_laws_eqBigram : PureOK Try.prog n_laws_eqBigram (T2 fun a b : Bigram => decide (a = b)) := pureT2 E0 mixed hb_laws_eqBigram fun a b => by
  simp [e_laws_eqBigram, envL, aBox, aLoad, cut]
  obtain ⟨a0, a1, a2⟩ := a
  obtain ⟨b0, b1, b2⟩ := b
  simp

def isLow (b : UInt8) : Bool := decide ((97 : Int) ≤ (b.toNat : Int)) && decide ((b.toNat : Int) ≤ 122)

theorem ok_impl_isLetter : PureOK Try.prog n_impl_isLetter (T1 isLow) := pureT1 E0 mixed hb_impl_isLetter fun b => by
  simp [e_impl_isLetter, isLow]

theorem ok_spec_l01Small : PureOK Try.prog n_spec_l01Small (T1 isLow) := pureT1 E0 mixed hb_spec_l01Small fun b => by
  simp [e_spec_l01Small, isLow]

def isWord (s : ByteArray) : Bool := (bl s).all isLow && (decide (1 ≤ s.size) && decide (s.size ≤ 10))

theorem ok_impl_isCost : PureOK Try.prog n_impl_isCost (T1 fun y => within y 0 1000000) := pureT1 (E1 ok_impl_within) mixed hb_impl_isCost fun y => by
  simp [e_impl_isCost, envL]

def before (a b : Bigram) : Bool := ltS a.first b.first || (decide (a.first = b.first) && ltS a.second b.second)
def beforeAt (l : List Bigram) (i j : Nat) : Bool := match l[i]?, l[j]? with
  | some a, some b => before a b
  | _, _ => false
theorem ok_spec_l18Before : PureOK Try.prog n_spec_l18Before (G2 (fun p q : Pt Bigram => decide (p.i < p.tab.length) && decide (q.i < q.tab.length)) fun p q => bv (match p.tab[p.i]?, q.tab[q.i]? with
    | some a, some b => before a b
    | _, _ => false)) :=
  pureG2 E0 mixed hb_spec_l18Before fun p q h => by
  obtain ⟨l, i⟩ := p
  obtain ⟨m, j⟩ := q
  simp at h
  obtain ⟨hi, hj⟩ := h
  obtain ⟨a, ha⟩ : ∃ b, l[i]'hi = b := ⟨_, rfl⟩
  obtain ⟨b, hb⟩ : ∃ b, m[j]'hj = b := ⟨_, rfl⟩
  have L := fun g n j h => load_fptr (A := Bigram) g n 3 i j l h
  have M := fun g n k h => load_fptr (A := Bigram) g n 3 j k m h
  cases w1 : ltS a.first b.first
  · simp [e_spec_l18Before, L, M, hi, hj, ha, hb, cut, before, w1]
    cases decide (a.first = b.first) <;> simp [L, M, hi, hj, ha, hb, cut]
  · simp [e_spec_l18Before, L, M, hi, hj, ha, hb, cut, before, w1]

def cmpS (a b : ByteArray) : Int := bif ltS a b then -1 else bif decide (a = b) then 0 else 1
theorem ok_cmp_isNaN_string : PureOK Try.prog n_cmp_isNaN_string (T1 fun _ : ByteArray => false) := pureT1 E0 mixed hb_cmp_isNaN_string fun a => by
  simp [e_cmp_isNaN_string]

theorem ok_cmp_Compare_string : PureOK Try.prog n_cmp_Compare_string (T2 cmpS) := pureT2 (E1 ok_cmp_isNaN_string) mixed hb_cmp_Compare_string fun a b => by
  cases w1 : ltS a b <;> by_cases w2 : a = b <;> simp [e_cmp_Compare_string, envL, cmpS, w1, w2]
  all_goals simp_all

def orI : List Int → Int
  | [] => 0
  | a :: l => bif decide (a = 0) then orI l else a

theorem lp_cmp_Or_int (env : Nat → Contract) {y0 y1 y4 y17 : AV} (q : Sl Int) (hq : fit q = true) :
    (obind (loopP hm0_cmp_Or_int xm0_cmp_Or_int (lb0_cmp_Or_int env) [y0, y1, .top, iv 0, y4, .top, Sl.enc q, iv ((q.getD []).length : Nat), iv 0, .top, .top, .top, .top, .top, .top, .top, .top, y17] []) fun r => lk0_cmp_Or_int env r.1 r.2.1 r.2.2) = some (iv (orI (q.getD [])), []) := by
  have T := lookT q (w := 1) rfl
  have L := loop_over (q.getD []) (fit_max hq) (hmk := hm0_cmp_Or_int) (xm := xm0_cmp_Or_int) (body := lb0_cmp_Or_int env) (K := fun r => lk0_cmp_Or_int env r.1 r.2.1 r.2.2) (σ := Unit) (fun _ (i : Nat) => [y0, y1, .top, iv 0, y4, .top, Sl.enc q, iv ((q.getD []).length : Nat), iv (i : Nat), .top, .top, .top, .top, .top, .top, .top, .top, y17]) (fun _ => [])
    (fun _ _ => True) (fun _ suf => some (iv (orI suf), []))
    (fun pre k suf u hl hi S => by
      by_cases hk : k = 0
      · right
        refine ⟨(), trivial, ?_, by simp [orI, hk]⟩
        rw [loopP.eq_1]
        simp [e_lb0_cmp_Or_int, T.len, T.idx, T.load, S.idx, S.lt, S.elt, cut, S.wr, hk, restr]
      · left
        rw [loopP.eq_1]
        simp [e_lb0_cmp_Or_int, T.len, T.idx, T.load, S.idx, S.lt, S.elt, cut, S.wr, hk, restr, e_lk0r_cmp_Or_int, orI])
    (fun u hi => by
      rw [loopP.eq_1]
      simp [e_lb0_cmp_Or_int, T.len, restr, e_lk0x0_cmp_Or_int, orI]) () trivial
  simpa using L
theorem ok_cmp_Or_int : PureOK Try.prog n_cmp_Or_int (G1 (fun q : Sl Int => fit q) fun q => iv (orI (q.getD []))) :=
  pureG1 E0 mixed hb_cmp_Or_int fun q hq => by
  have T := lookT q (w := 1) rfl
  have L := fun env {y0 y1 y4 y17} => @lp_cmp_Or_int env y0 y1 y4 y17 q hq
  simp [e_cmp_Or_int, T.len, L]

def cmpB (a b : Bigram) : Int := orI [cmpS a.first b.first, cmpS a.second b.second]
theorem cmpB_before (a b : Bigram) : decide (0 ≤ cmpB a b) = !before a b := by
  unfold cmpB before cmpS orI orI orI
  cases ltS a.first b.first <;> by_cases h : a.first = b.first <;> cases ltS a.second b.second <;> by_cases h2 : a.second = b.second <;> simp [h, h2]

theorem ok_impl_compareBigrams : PureOK Try.prog n_impl_compareBigrams (T2 cmpB) := pureT2 (E2 ok_cmp_Compare_string ok_cmp_Or_int) mixed hb_impl_compareBigrams fun a b => by
  have S := fun (M N : AObj) => snapD_sl (A := Int) [M, N, ⟨1, [[iv (cmpS a.first b.first)], [iv (cmpS a.second b.second)]]⟩] (o := 2) (ep := 2) (n := 2) [cmpS a.first b.first, cmpS a.second b.second] rfl rfl rfl
  have f : fit (some [cmpS a.first b.first, cmpS a.second b.second] : Sl Int) = true := rfl
  simp [e_impl_compareBigrams, envL, aBox, aLoad, cut, aBuildSlice, zrows, aFillRows, S, f, cmpB]

theorem less_irr : ∀ x : List UInt8, Op.bytesLess x x = false
  | [] => rfl
  | a :: x => by simp [Op.bytesLess, less_irr x]
theorem less_trans : ∀ x y z : List UInt8, Op.bytesLess x y = true → Op.bytesLess y z = true → Op.bytesLess x z = true
  | _, _, [], _, h => by cases ‹List UInt8› <;> simp [Op.bytesLess] at h
  | _, [], _ :: _, h, _ => by simp [Op.bytesLess] at h
  | [], _ :: _, _ :: _, _, _ => by simp [Op.bytesLess]
  | a :: x, b :: y, c :: z, h1, h2 => by
    simp only [Op.bytesLess, Bool.or_eq_true, decide_eq_true_eq, Bool.and_eq_true, beq_iff_eq] at h1 h2 ⊢
    rcases h1 with h1 | ⟨rfl, h1⟩
    · rcases h2 with h2 | ⟨rfl, h2⟩
      · left
        rw [UInt8.lt_iff_toNat_lt] at *
        omega
      · left; exact h1
    · rcases h2 with h2 | ⟨rfl, h2⟩
      · left; exact h2
      · right; exact ⟨rfl, less_trans x y z h1 h2⟩
theorem ltS_irr (a : ByteArray) : ltS a a = false := less_irr _
theorem ltS_trans {a b c : ByteArray} (h1 : ltS a b = true) (h2 : ltS b c = true) : ltS a c = true := less_trans _ _ _ h1 h2
theorem before_iff (a b : Bigram) : before a b = true ↔ ltS a.first b.first = true ∨ (a.first = b.first ∧ ltS a.second b.second = true) := by simp [before]
theorem before_trans {a b c : Bigram} (h1 : before a b = true) (h2 : before b c = true) : before a c = true := by
  rw [before_iff] at *
  rcases h1 with h1 | ⟨e1, h1⟩
  · rcases h2 with h2 | ⟨e2, h2⟩
    · exact .inl (ltS_trans h1 h2)
    · exact .inl (e2 ▸ h1)
  · rcases h2 with h2 | ⟨e2, h2⟩
    · exact .inl (e1 ▸ h2)
    · exact .inr ⟨e1.trans e2, ltS_trans h1 h2⟩
def sameB (a b : Bigram) : Bool := decide (a.first = b.first) && decide (a.second = b.second)
theorem sameB_not {a b : Bigram} (h : sameB a b = true) : before a b = false := by
  simp [sameB] at h
  simp [before, h.1, h.2, ltS_irr]
theorem sameB_before {a b c : Bigram} (h : sameB b c = true) : before a b = before a c := by
  simp [sameB] at h
  simp [before, h.1, h.2]
theorem cmpB_zero (a b : Bigram) : decide (cmpB a b = 0) = sameB a b := by
  unfold cmpB cmpS orI orI orI sameB
  by_cases h : a.first = b.first <;> by_cases h2 : a.second = b.second
  · simp [h, h2, ltS_irr]
  · cases ltS a.second b.second <;> simp [h, h2, ltS_irr]
  · cases ltS a.first b.first <;> simp [h]
  · cases ltS a.first b.first <;> simp [h]
def srtB (l : List Bigram) : Bool := (List.range l.length).all fun i => decide (i = 0) || beforeAt l (i - 1) i
theorem srt_of {l : List Bigram} (h : srtB l = true) : ∀ (j i : Nat) (hj : j < l.length) (hi : i < j), before (l[i]'(by omega)) l[j] = true := by
  have h1 : ∀ i, i < l.length → i = 0 ∨ beforeAt l (i - 1) i = true := by
    intro i hi
    have := List.all_eq_true.1 h i (by simp [hi])
    simpa using this
  intro j
  induction j with
  | zero => intro i hj hi; omega
  | succ j ih =>
    intro i hj hi
    have h2 : before (l[j]'(by omega)) l[j + 1] = true := by
      rcases h1 (j + 1) hj with e | e
      · omega
      · have hj' : j < l.length := by omega
        simpa [beforeAt, hj, hj'] using e
    by_cases e : i = j
    · subst e; exact h2
    · exact before_trans (ih i (by omega) (by omega)) h2
/-- How many come before the target. -/
def posB (l : List Bigram) (t : Bigram) : Nat := (l.takeWhile fun a => before a t).length
theorem pos_le (l : List Bigram) (t : Bigram) : posB l t ≤ l.length := (List.takeWhile_prefix _).length_le
theorem pos_ok {l : List Bigram} (h : srtB l = true) (t : Bigram) {m : Nat} (hm : m < l.length) : before l[m] t = decide (m < posB l t) := by
  have key : ∀ (l : List Bigram) (p : Bigram → Bool) (m : Nat) (hm : m < l.length), m < (l.takeWhile p).length → p l[m] = true := by
    intro l p
    induction l with
    | nil => intro m hm; simp at hm
    | cons a l ih =>
      intro m hm hw
      cases hp : p a
      · simp [hp] at hw
      · cases m with
        | zero => simpa using hp
        | succ m =>
          simp only [List.takeWhile_cons, hp, if_true, List.length_cons] at hw
          simpa using ih m (by simpa using hm) (by omega)
  have key2 : ∀ (l : List Bigram) (p : Bigram → Bool) (hm : (l.takeWhile p).length < l.length), p (l[(l.takeWhile p).length]'hm) = false := by
    intro l p
    induction l with
    | nil => intro hm; simp at hm
    | cons a l ih =>
      intro hw
      cases hp : p a
      · simp [hp]
      · have hw' : (l.takeWhile p).length < l.length := by
          simp only [List.takeWhile_cons, hp, if_true, List.length_cons] at hw
          omega
        simpa [hp] using ih hw'
  by_cases hp : m < posB l t
  · rw [key l _ m hm hp]
    simp [hp]
  · have hq : posB l t < l.length := by omega
    have e := key2 l (fun a => before a t) hq
    simp only [hp, decide_false]
    cases hb : before l[m] t
    · rfl
    · exfalso
      by_cases e2 : posB l t = m
      · have : before (l[posB l t]'hq) t = true := by simpa [e2] using hb
        have e' : before (l[posB l t]'hq) t = false := e
        rw [this] at e'
        cases e'
      · have := before_trans (srt_of h m (posB l t) hm (by omega)) hb
        have e' : before (l[posB l t]'hq) t = false := e
        rw [this] at e'
        cases e'
def hitB (l : List Bigram) (t : Bigram) : Bool := match l[posB l t]? with
  | some b => sameB b t
  | none => false
theorem hit_find {l : List Bigram} (h : srtB l = true) (t : Bigram) : l.find? (fun b => sameB b t) = bif hitB l t then l[posB l t]? else none := by
  unfold hitB
  by_cases hp : posB l t < l.length
  · simp only [List.getElem?_eq_getElem hp]
    cases hs : sameB l[posB l t] t
    · simp only [cond_false]
      rw [List.find?_eq_none]
      intro x hx
      obtain ⟨j, hj, rfl⟩ := List.getElem_of_mem hx
      intro hsame
      rcases Nat.lt_trichotomy j (posB l t) with e | e | e
      · have h1 := pos_ok h t hj
        rw [sameB_not hsame] at h1
        simp [e] at h1
      · subst e; rw [hs] at hsame; cases hsame
      · have h1 := srt_of h j (posB l t) hj e
        rw [sameB_before hsame] at h1
        have h2 := pos_ok h t hp
        rw [h1] at h2
        simp at h2
    · simp only [cond_true]
      rw [List.find?_eq_some_iff_getElem]
      refine ⟨hs, posB l t, hp, rfl, fun j hj => ?_⟩
      have h1 := pos_ok h t (m := j) (by omega)
      cases hq : sameB l[j] t
      · rfl
      · rw [sameB_not hq] at h1
        simp [hj] at h1
  · have e : l[posB l t]? = none := List.getElem?_eq_none (by omega)
    rw [e]
    simp only [cond_false]
    rw [List.find?_eq_none]
    intro x hx
    obtain ⟨j, hj, rfl⟩ := List.getElem_of_mem hx
    intro hsame
    have h1 := pos_ok h t hj
    rw [sameB_not hsame] at h1
    have : j < posB l t := by omega
    simp [this] at h1

/-! ### slices.SortFunc at pairs of words whose cost is 1 -/
/-- Two words. -/
abbrev WW := ByteArray × ByteArray
def rowW (x : WW) : List AV := [sv x.1, sv x.2, iv 1]
def valW (x : WW) : List Value := [.string x.1, .string x.2, .int .i64 1]
def rowsW : List (List AV) → Option (List WW)
  | [] => some []
  | [.sc (.string a), .sc (.string b), .sc (.int .i64 z)] :: r => if z = 1 then (rowsW r).map ((a, b) :: ·) else none
  | _ => none
theorem rowsW_spec : ∀ {rows : List (List AV)} {zs : List WW}, rowsW rows = some zs → rows = zs.map rowW
  | [], zs, h => by cases h; rfl
  | row :: r, zs, h => by
    unfold rowsW at h
    split at h
    · rename_i e; cases e
    · rename_i a b z r' e
      cases e
      split at h
      · rename_i hz
        subst hz
        cases e2 : rowsW r with
        | none => rw [e2] at h; cases h
        | some q =>
          rw [e2] at h
          cases h
          rw [rowsW_spec e2]
          rfl
      · cases h
    · cases h
theorem rowsW_map (zs : List WW) : rowsW (zs.map rowW) = some zs := by
  induction zs with
  | nil => rfl
  | cons z zs ih =>
    show (if (1 : Int) = 1 then (rowsW (zs.map rowW)).map ((z.1, z.2) :: ·) else none) = _
    rw [ih, if_pos rfl]
    rfl
/-- What the sort does to an own slice of such pairs. -/
def sortWF (le : WW → WW → Bool) (g : Nat) : List AV → Heap → Option (AV × Heap)
  | [.sl o ep 0 n, .fn f []], h => if f = g then (match h[o]? with
    | some ob => if ob.rows.length = ep ∧ n = ep ∧ ob.k = 3 ∧ n ≤ 4294967296 then (match rowsW ob.rows with
      | some zs => some (.tup [], h.set o ⟨3, (zs.mergeSort le).map rowW⟩)
      | none => none) else none
    | none => none) else none
  | [.sc (.slice none 0 0), .fn f []], h => if f = g then some (.tup [], h) else none
  | _, _ => none
theorem flatW_get (zs : List WW) {i j : Nat} {x : WW} (hi : zs[i]? = some x) (hj : j < 3) : (Go.Sort.flatK valW 3 zs.toArray)[i * 3 + j]! = (valW x)[j]! := by
  have hlt := (List.getElem?_eq_some_iff.1 hi).1
  rw [Go.Sort.get_flatK _ _ _ _ (by simp; omega)]
  have e1 : (i * 3 + j) / 3 = i := by omega
  have e2 : (i * 3 + j) % 3 = j := by omega
  rw [e1, e2]
  congr 2
  have e3 := (List.getElem?_eq_some_iff.1 hi).2
  simp [hlt, e3]
theorem rowW_cell (x : WW) {j : Nat} {c : AV} (h : (rowW x)[j]? = some c) : j < 3 ∧ c = .sc ((valW x)[j]!) := by
  match j, h with
  | 0, h => cases h; exact ⟨by omega, rfl⟩
  | 1, h => cases h; exact ⟨by omega, rfl⟩
  | 2, h => cases h; exact ⟨by omega, rfl⟩
  | j + 3, h => simp [rowW] at h
theorem valW_one (x : WW) {j : Nat} (h : j < 3) : ((valW x)[j]!).oneCell' = true := by
  match j, h with
  | 0, _ => rfl
  | 1, _ => rfl
  | 2, _ => rfl
theorem gen_sortW {P : Program} {g gc : Nat} {le : WW → WW → Bool} (hbody : HasBody P g)
    (hc : ∀ (blk off cap : Nat) (zs : List WW) (w : World), Go.Sort.HoldsK valW 3 w blk off zs.toArray → blk < w.heap.size → zs.length < 4611686018427387904 →
      Calls P g #[.slice (some ⟨blk, off, none⟩) zs.length cap, .func (.func gc) #[] #[]] w fun e w' => e = .returned (.tuple #[]) ∧ ∃ n os, w' = Go.Proofs.sortWorldK valW 3 w blk off n (zs.mergeSort le).toArray os)
    (hn : ∀ (p : Option Addr) (cap : Nat) (w : World), Calls P g #[.slice p 0 cap, .func (.func gc) #[] #[]] w fun e w' => e = .returned (.tuple #[]) ∧ w' = w) : GenOK P g (sortWF le gc) := by
  intro az h r h' hF X ρ w vs hr hsz hvs
  unfold sortWF at hF
  split at hF
  · rename_i o ep n f
    split at hF
    · rename_i hf
      subst hf
      split at hF
      · rename_i ob hob
        split at hF
        · rename_i hcnd
          obtain ⟨c1, c2, c3, c4⟩ := hcnd
          split at hF
          · rename_i zs hzs
            cases hF
            have hrows := rowsW_spec hzs
            obtain ⟨v, u, rfl⟩ : ∃ v u, vs = #[v, u] := by
              match vs, hsz with
              | ⟨[v, u]⟩, _ => exact ⟨v, u, rfl⟩
            have hv := hvs 0 _ v rfl rfl
            have hu := hvs 1 _ u rfl rfl
            have hzl : zs.length = n := by
              have := congrArg List.length hrows
              rw [List.length_map] at this
              omega
            unfold CallF
            rw [callFunc_body hbody]
            show Calls P g _ w _
            cases hu with
            | @fn _ _ _ fvs hfn hfc =>
              have hfe : fvs = #[] := Array.size_eq_zero_iff.1 hfn
              subst hfe
              cases hv with
              | @sl _ _ _ _ _ cap a io hρ he hh =>
                obtain ⟨ob0, e0, R⟩ := hr.obj o io hρ
                rw [hob] at e0
                cases e0
                have hep : io.ep = ep := by rw [← R.ep]; exact c1
                obtain ⟨k1, k2, k3⟩ := hh hep
                have hk : io.k = 3 := by rw [← R.k]; exact c3
                have hCle := R.le
                cases n with
                | zero =>
                  have hz0 : zs = [] := List.length_eq_zero_iff.1 hzl
                  subst hz0
                  refine (hn (some a) cap w).mono fun e w' ⟨h1, h2⟩ => ?_
                  subst h1 h2
                  refine ⟨_, rfl, ρ, ?_, Step.refl _ _, .tup rfl fun i c v h => by simp at h⟩
                  have e1 : h.set o ⟨3, (([] : List WW).mergeSort le).map rowW⟩ = h := by
                    obtain ⟨hlt, e2⟩ := List.getElem?_eq_some_iff.1 hob
                    have e3 : ob = ⟨3, (([] : List WW).mergeSort le).map rowW⟩ := by
                      cases ob
                      simp only at c3 hrows
                      subst c3 hrows
                      simp
                    rw [← e3, ← e2]
                    exact List.set_getElem_self hlt
                  rw [e1]
                  exact hr
                | succ n =>
                  have ha := k3 (by omega)
                  subst ha
                  simp only [Nat.zero_mul]
                  have hH : Go.Sort.HoldsK valW 3 w io.b 0 zs.toArray := fun t ht => by
                    have ht' : t < zs.length * 3 := by simpa using ht
                    have hi : t / 3 < zs.length := by omega
                    have hx : zs[t / 3]? = some zs[t / 3] := List.getElem?_eq_getElem hi
                    have e := flatW_get zs (j := t % 3) hx (by omega)
                    have et : t / 3 * 3 + t % 3 = t := by omega
                    rw [et] at e
                    obtain ⟨c, hc0⟩ : ∃ c, (rowW zs[t / 3])[t % 3]? = some c := ⟨_, List.getElem?_eq_getElem (show t % 3 < 3 by omega)⟩
                    obtain ⟨_, hce⟩ := rowW_cell _ hc0
                    subst hce
                    obtain ⟨v, e1, e2⟩ := R.cells (t / 3) (t % 3) _ (by
                      rw [hrows]
                      unfold cellAt
                      rw [List.getElem?_map, hx]
                      exact hc0)
                    have ev : v = (valW zs[t / 3])[t % 3]! := by
                      generalize (valW zs[t / 3])[t % 3]! = q at e2
                      cases e2
                      rfl
                    subst ev
                    rw [hk, et] at e1
                    refine ⟨?_, ?_⟩
                    · rw [Nat.zero_add, e]
                      exact e1
                    · rw [Nat.zero_add]
                      exact (R.there t (by rw [hk]; omega)).2
                  have hcall := hc io.b 0 cap zs w hH R.lt (by omega)
                  rw [hzl] at hcall
                  refine hcall.mono fun e w' ⟨h1, q, os, h2⟩ => ?_
                  subst h1
                  have hlen : (zs.mergeSort le).length = zs.length := List.length_mergeSort _
                  have hput := Go.Lib.putRow_eq_setCells (id : Value → Value) w io.b 0 (Go.Sort.flatK valW 3 zs.toArray) (Go.Sort.flatK valW 3 (zs.mergeSort le).toArray).toList q hH (by simp)
                  generalize hS : zs.mergeSort le = S at *
                  have hDl : ((Go.Sort.flatK valW 3 S.toArray).toList.map (id : Value → Value)).length = S.length * 3 := by simp
                  have hD : ∀ (i j : Nat) (x : WW), S[i]? = some x → j < 3 → ((Go.Sort.flatK valW 3 S.toArray).toList.map (id : Value → Value))[i * 3 + j]? = some ((valW x)[j]!) := fun i j x hx hj => by
                    have hlt := (List.getElem?_eq_some_iff.1 hx).1
                    have g := flatW_get S hx hj
                    have sz : i * 3 + j < (Go.Sort.flatK valW 3 S.toArray).size := by simp; omega
                    rw [getElem!_pos (Go.Sort.flatK valW 3 S.toArray) (i * 3 + j) sz] at g
                    rw [List.map_id, Array.getElem?_toList, Array.getElem?_eq_getElem sz, g]
                  generalize (Go.Sort.flatK valW 3 S.toArray).toList.map (id : Value → Value) = D at *
                  have h3 : w' = Go.Sort.grow ((w.drewN q).setCells io.b 0 D) os := by
                    rw [h2, ← hput]
                    rfl
                  subst h3
                  have hd : ∀ b : Nat, (w.drewN q).heap[b]? = w.heap[b]? := fun b => rfl
                  have hr1 : HRep P X ρ h (w.drewN q) := hr.keepAll (Nat.le_refl _) fun b _ => hd b
                  have st1 : Step ρ w ρ (w.drewN q) := Step.keepAll (Nat.le_refl _) (fun b _ => hd b) rfl rfl rfl (Nat.le_add_right _ _)
                  obtain ⟨hr2, st2⟩ := hr1.write (ob' := ⟨3, S.map rowW⟩) hρ hob hk.symm (by simp only [List.length_map]; omega) (by simp only [List.length_map]; omega)
                    (fun row hrow => by
                      obtain ⟨z, _, rfl⟩ := List.mem_map.1 hrow
                      exact ⟨by rw [hk]; rfl, rfl⟩) 0 D (by rw [hk, hDl]; omega) (fun i j c hcell => by
                      obtain ⟨row, q1, q2⟩ := cellAt_some hcell
                      simp only [List.getElem?_map] at q1
                      cases q3 : S[i]? with
                      | none => rw [q3] at q1; cases q1
                      | some x =>
                        rw [q3] at q1
                        cases q1
                        obtain ⟨hj, hce⟩ := rowW_cell x q2
                        have hil := (List.getElem?_eq_some_iff.1 q3).1
                        subst hce
                        refine ⟨(valW x)[j]!, ?_, .sc (valW_one x hj)⟩
                        rw [if_pos ⟨by omega, by rw [hk, hDl]; omega⟩, hk, Nat.sub_zero]
                        exact hD i j x q3 hj)
                  have hg : ∀ b : Nat, b < ((w.drewN q).setCells io.b 0 D).heap.size → (Go.Sort.grow ((w.drewN q).setCells io.b 0 D) os).heap[b]? = ((w.drewN q).setCells io.b 0 D).heap[b]? := fun b hb => Go.Sort.heap_grow_old _ _ hb
                  have hsg : ((w.drewN q).setCells io.b 0 D).heap.size ≤ (Go.Sort.grow ((w.drewN q).setCells io.b 0 D) os).heap.size := by rw [Go.Sort.size_grow]; omega
                  exact ⟨_, rfl, _, hr2.keepAll hsg hg, (st1.trans st2).trans (Step.keepAll hsg hg rfl rfl rfl (Nat.le_refl _)), .tup rfl fun i c v h => by simp at h⟩
          · cases hF
        · cases hF
      · cases hF
    · cases hF
  · rename_i f
    split at hF
    · rename_i hf
      subst hf
      cases hF
      obtain ⟨v, u, rfl⟩ : ∃ v u, vs = #[v, u] := by
        match vs, hsz with
        | ⟨[v, u]⟩, _ => exact ⟨v, u, rfl⟩
      have hv := hvs 0 _ v rfl rfl
      have hu := hvs 1 _ u rfl rfl
      cases hv
      cases hu with
      | @fn _ _ _ fvs hfn hfc =>
        have hfe : fvs = #[] := Array.size_eq_zero_iff.1 hfn
        subst hfe
        unfold CallF
        rw [callFunc_body hbody]
        show Calls P g _ w _
        refine (hn none 0 w).mono fun e w' ⟨h1, h2⟩ => ?_
        subst h1 h2
        exact ⟨_, rfl, ρ, hr, Step.refl _ _, .tup rfl fun i c v h => by simp at h⟩
    · cases hF
  · cases hF
/-- A frame with its draws is a world that grew. -/
theorem grow_of_below {W w' : World} (h : BelowD W.heap.size W w') : ∃ q os, w' = Go.Sort.grow (W.drewN q) os := by
  refine ⟨w'.drawn - W.drawn, w'.heap.extract W.heap.size w'.heap.size, ?_⟩
  have hd := h.drawn
  have hs := h.size
  have e1 : w'.heap = W.heap ++ w'.heap.extract W.heap.size w'.heap.size := by
    apply Array.ext
    · simp
      omega
    · intro i h1 h2
      by_cases hi : i < W.heap.size
      · have b := h.block i hi
        rw [Array.getElem?_eq_getElem h1, Array.getElem?_eq_getElem hi] at b
        rw [Array.getElem_append_left hi]
        exact Option.some.inj b
      · rw [Array.getElem_append_right (by omega), Array.getElem_extract]
        congr 1
        omega
  obtain ⟨h1, h2, h3⟩ := (⟨h.os, h.tape, h.output⟩ : _ ∧ _ ∧ _)
  cases w' with
  | mk hp tp dr os out =>
    unfold Go.Sort.grow World.drewN
    simp only at *
    subst h1 h2 h3
    rw [← e1]
    congr 1
    omega
theorem repN_sc' {X : Nat → Prop} {B : Nat} {w : World} {u v : Value} (h : RepN X B w (.sc u) v) : v = u := by
  obtain ⟨ρ0, _, h2⟩ := h
  obtain ⟨h3, h4⟩ := h2 0
  obtain ⟨_, g⟩ := h4 (mat depth (.sc u) 0).2 (fun i ob e => by simpa using e)
  have : (mat depth (.sc u) 0).1 = .sc u := rfl
  rw [this] at g
  cases g
  rfl

theorem less_tri : ∀ x y : List UInt8, Op.bytesLess x y = true ∨ x = y ∨ Op.bytesLess y x = true
  | [], [] => .inr (.inl rfl)
  | [], _ :: _ => .inl rfl
  | _ :: _, [] => .inr (.inr rfl)
  | a :: x, b :: y => by
    unfold Op.bytesLess
    have h3 : a < b ∨ a = b ∨ b < a := by
      rcases Nat.lt_trichotomy a.toNat b.toNat with h | h | h
      · exact .inl h
      · exact .inr (.inl (UInt8.toNat_inj.1 h))
      · exact .inr (.inr h)
    rcases h3 with h | h | h
    · exact .inl (by simp [h])
    · subst h
      rcases less_tri x y with k | k | k
      · exact .inl (by simp [k])
      · exact .inr (.inl (by rw [k]))
      · exact .inr (.inr (by simp [k]))
    · exact .inr (.inr (by simp [h]))
theorem ltS_tri (a b : ByteArray) : ltS a b = true ∨ a = b ∨ ltS b a = true := by
  rcases less_tri a.toList b.toList with h | h | h
  · exact .inl h
  · have := beq_toList a b
    rw [h, beq_self_eq_true] at this
    exact .inr (.inl (of_decide_eq_true this.symm))
  · exact .inr (.inr h)
def bgW (x : WW) : Bigram := ⟨x.1, x.2, 1⟩
def ltW (x y : WW) : Bool := decide (cmpB (bgW x) (bgW y) < 0)
def leW (x y : WW) : Bool := !ltW y x
theorem ltW_before (x y : WW) : ltW x y = before (bgW x) (bgW y) := by
  have h := cmpB_before (bgW x) (bgW y)
  unfold ltW
  by_cases c : cmpB (bgW x) (bgW y) < 0
  · rw [decide_eq_true c]
    rw [decide_eq_false (by omega)] at h
    cases e : before (bgW x) (bgW y)
    · rw [e] at h; cases h
    · rfl
  · rw [decide_eq_false c]
    rw [decide_eq_true (by omega)] at h
    cases e : before (bgW x) (bgW y)
    · rfl
    · rw [e] at h; cases h
theorem ltW_tri (x y : WW) : ltW x y = true ∨ x = y ∨ ltW y x = true := by
  rw [ltW_before, ltW_before, before_iff, before_iff]
  obtain ⟨a, b⟩ := x
  obtain ⟨c, d⟩ := y
  show (ltS a c = true ∨ a = c ∧ ltS b d = true) ∨ _ ∨ (ltS c a = true ∨ c = a ∧ ltS d b = true)
  rcases ltS_tri a c with h | h | h
  · exact .inl (.inl h)
  · subst h
    rcases ltS_tri b d with k | k | k
    · exact .inl (.inr ⟨rfl, k⟩)
    · subst k
      exact .inr (.inl rfl)
    · exact .inr (.inr (.inr ⟨rfl, k⟩))
  · exact .inr (.inr (.inl h))
theorem ltW_irr (x : WW) : ltW x x = false := by
  rw [ltW_before]
  exact sameB_not (by simp [sameB])
theorem ltW_trans (x y z : WW) (h1 : ltW x y = true) (h2 : ltW y z = true) : ltW x z = true := by
  rw [ltW_before] at *
  exact before_trans h1 h2
theorem ltW_ntrans (x y z : WW) (h1 : ltW x y = false) (h2 : ltW y z = false) : ltW x z = false := by
  cases e : ltW x z with
  | false => rfl
  | true =>
    rcases ltW_tri x y with h | h | h
    · rw [h] at h1; cases h1
    · subst h; rw [e] at h2; cases h2
    · have := ltW_trans _ _ _ h e
      rw [this] at h2; cases h2
def wwOf (l : List Bigram) : Option (List WW) := bif l.all fun b => decide (b.cost = 1) then some (l.map fun b => (b.first, b.second)) else none
theorem wwOf_spec {l : List Bigram} {zs : List WW} (h : wwOf l = some zs) : l = zs.map bgW := by
  unfold wwOf at h
  cases c : l.all fun b => decide (b.cost = 1) with
  | false => rw [c] at h; cases h
  | true =>
    rw [c] at h
    cases h
    rw [List.map_map]
    have : ∀ b ∈ l, (bgW ∘ fun b : Bigram => (b.first, b.second)) b = b := fun b hb => by
      have := of_decide_eq_true (List.all_eq_true.1 c b hb)
      cases b
      simp only at this
      subst this
      rfl
    exact (List.map_id l).symm.trans (List.map_congr_left fun b hb => (this b hb).symm)
/-- The sort of an own slice of pairs whose cost is 1. -/
def sortWO (s : Sl Bigram) : Option (Sl Bigram) := match s with
  | none => some none
  | some l => bif decide (l.length ≤ 4294967296) then obind (wwOf l) fun zs => some (some ((zs.mergeSort leW).map bgW)) else none

theorem sim_sortW {γ δ : Type} {B : Base} {h : Heap} {L : List Ent} {env : Nat → Contract} {g gc : Nat} (O : Hold B h L) (i : Nat) {x : AV} {s : Sl Bigram} (hi : L[i]? = some (x, obS s)) (he : env g = .gen (sortWF leW gc))
    {F : AV → Heap → Option γ} {G : Sl Bigram → Option δ} {Q : δ → γ → Prop} (K : ∀ w h', Hold B h' (L.set i (x, obS (w : Sl Bigram))) → Sim (F (.tup []) h') (G w) Q) : Sim (obind2 (aCall (env g) [x, .fn gc []] h) F) (obind (sortWO s) G) Q := by
  rw [he]
  show Sim (obind2 (sortWF leW gc [x, .fn gc []] h) F) _ Q
  unfold sortWO
  cases s with
  | none =>
    have := O.nilE hi
    subst this
    have h2 : sortWF leW gc [nilS, .fn gc []] h = some (.tup [], h) := by
      show (if gc = gc then some (AV.tup [], h) else none) = _
      rw [if_pos rfl]
    rw [h2]
    show Sim (obind2 (some (.tup [], h)) F) (obind (some none) G) Q
    rw [obind2_sm, obind_sm]
    refine K none h ?_
    have e : L.set i (nilS, obS (none : Sl Bigram)) = L := by
      obtain ⟨hlt, e⟩ := List.getElem?_eq_some_iff.1 hi
      rw [← e]
      exact List.set_getElem_self hlt
    rw [e]
    exact O
  | some l =>
    show Sim _ (obind (bif decide (l.length ≤ 4294967296) then obind (wwOf l) fun zs => some (some ((zs.mergeSort leW).map bgW)) else none) G) Q
    cases hl : decide (l.length ≤ 4294967296) with
    | false => exact sim_no
    | true =>
      rw [cond_true]
      cases hz : wwOf l with
      | none => exact sim_no
      | some zs =>
        rw [obind_sm, obind_sm]
        have hl' := of_decide_eq_true hl
        have hzs := wwOf_spec hz
        obtain ⟨o, rfl, h5⟩ := O.sl (k := Row.w Bigram) (rows := l.map Row.cells) hi
        have hrw : l.map Row.cells = zs.map rowW := by
          rw [hzs, List.map_map]
          rfl
        have e2 : rowsW (l.map Row.cells) = some zs := by rw [hrw]; exact rowsW_map zs
        have hlen : zs.length = l.length := by rw [hzs, List.length_map]
        have h2 : sortWF leW gc [.sl o (l.map Row.cells).length 0 (l.map Row.cells).length, .fn gc []] h = some (.tup [], h.set o ⟨Row.w Bigram, ((zs.mergeSort leW).map bgW).map Row.cells⟩) := by
          have hw1 : Row.w Bigram = 3 := rfl
          have e3 : ((zs.mergeSort leW).map bgW).map Row.cells = (zs.mergeSort leW).map rowW := by
            rw [List.map_map]
            rfl
          rw [e3]
          simp only [sortWF, h5, e2, List.length_map, hw1, true_and, hl', if_true]
        rw [h2, obind2_sm]
        have O' := O.update (o := o) (v' := .sl (Row.w Bigram) (((zs.mergeSort leW).map bgW).map Row.cells)) hi rfl rfl
        refine K _ _ ?_
        simpa [obS, EV.at, List.length_mergeSort, hlen] using O'

theorem repW {own : Nat → Prop} {w : World} {ρ : RM} (x : WW) : Rep own w ρ (enc (bgW x)) (.agg (valW x).toArray) := by
  refine .agg (cs := [sv x.1, sv x.2, iv 1]) rfl rfl fun i c v h1 h2 => ?_
  match i, h1, h2 with
  | 0, h1, h2 => cases h1; cases h2; exact .sc rfl
  | 1, h1, h2 => cases h1; cases h2; exact .sc rfl
  | 2, h1, h2 => cases h1; cases h2; exact .sc rfl
  | i + 3, h1, _ => simp at h1
theorem cmpW_lays (blk off size : Nat) (w : World) : Go.Proofs.CmpLays Try.prog n_impl_compareBigrams #[] valW 3 (fun x y => cmpB (bgW x) (bgW y)) blk off size w := fun m os dk _ x y => by
  have hp := ok_impl_compareBigrams [enc (bgW x), enc (bgW y)] (enc (cmpB (bgW x) (bgW y))) (T2_enc cmpB _ _) (fun _ => False) (Go.Proofs.sortWorldK valW 3 w blk off m dk os) #[.agg (valW x).toArray, .agg (valW y).toArray] (Glob.none (by kernel_rfl)) rfl (fun i d v h1 h2 => by
    match i, h1, h2 with
    | 0, h1, h2 => cases h1; cases h2; exact repW x
    | 1, h1, h2 => cases h1; cases h2; exact repW y
    | i + 2, h1, _ => simp at h1)
  unfold CallF at hp
  rw [callFunc_body hb_impl_compareBigrams] at hp
  refine (show Calls Try.prog n_impl_compareBigrams _ _ _ from hp).mono fun e w' ⟨v, h1, h2, h3⟩ => ?_
  have hv := repN_sc' h3
  subst hv
  exact ⟨h1, grow_of_below h2⟩
theorem swoW : Go.Sort.SWO (Go.Proofs.ltOf fun x y : WW => cmpB (bgW x) (bgW y)) where
  irrefl := ltW_irr
  trans := ltW_trans
  ntrans := ltW_ntrans
theorem gen_slices_SortFunc_impl_Bigram_impl_Bigram : GenOK Try.prog n_slices_SortFunc_impl_Bigram_impl_Bigram (sortWF leW n_impl_compareBigrams) :=
  gen_sortW hb_slices_SortFunc_impl_Bigram_impl_Bigram (fun blk off cap zs w a b c =>
    have h := Go.Proofs.AnyQ.slices_SortFunc_total laySortF 3 Try.isAgg56 Try.sizeOf56 valW (fun _ => rfl) (fun x v hv => by
      simp [valW] at hv
      rcases hv with rfl | rfl | rfl <;> rfl) (fun x y => cmpB (bgW x) (bgW y)) swoW n_impl_compareBigrams #[] blk off cap zs.toArray w (callFunc_body hb_impl_compareBigrams) (cmpW_lays blk off _ w) a b (by simpa using c) (fun x y h1 h2 => by
        rcases ltW_tri x y with h | h | h
        · exact absurd (h1.symm.trans h) (by decide)
        · exact h
        · exact absurd (h2.symm.trans h) (by decide))
    h) (fun p cap w => Go.Proofs.AnyF.slices_SortFunc_none laySortF p cap _ w)

/-- The digits of a number, ahead of a text. -/
def digT (k : Nat) (out : ByteArray) : ByteArray := if _h : k = 0 then out else digT (k / 10) (⟨#[(48 + k % 10).toUInt8]⟩ ++ out)
termination_by k
decreasing_by omega
def markT (k : Nat) : ByteArray := bif decide (k = 0) then ⟨#[109, 48]⟩ else ⟨#[109]⟩ ++ digT k ⟨#[]⟩
theorem size_one (b : UInt8) (out : ByteArray) : ((⟨#[b]⟩ : ByteArray) ++ out).size = 1 + out.size := by
  rw [ByteArray.size_append]
  rfl
theorem add_str (a b : ByteArray) (h : a.size + b.size ≤ 4294967296) : aBin .add (sv a) (sv b) = some (sv (a ++ b)) := by
  have h0 : aBin .add (sv a) (sv b) = (match (if ((a.size + b.size : Nat) : Int) ≤ 9223372036854775807 then some (Value.string (a ++ b)) else none) with | some v => some (AV.sc v) | none => none) := rfl
  rw [h0, if_pos (by omega)]
  rfl
theorem digT_size : ∀ (k : Nat) (out : ByteArray), (digT k out).size ≤ k + out.size := by
  intro k out
  induction k, out using digT.induct with
  | case1 out => rw [digT]; simp
  | case2 k out h ih =>
    rw [digT, dif_neg h]
    rw [size_one] at ih
    omega

/-- The row that a mark leaves: numbers that go up by one, or their texts. -/
def mrow : List Bool → Nat → List AV
  | [], _ => []
  | b :: ks, k => (bif b then sv (markT k) else iv (k : Nat)) :: mrow ks (k + 1)
def mrows (ks : List Bool) : Nat → Nat → List (List AV)
  | _, 0 => []
  | k, m + 1 => mrow ks k :: mrows ks (k + ks.length) m
theorem set_same {h : Heap} {o : Nat} {x : AObj} (ho : h[o]? = some x) : h.set o x = h := by
  obtain ⟨hlt, e⟩ := List.getElem?_eq_some_iff.1 ho
  rw [← e]
  exact List.set_getElem_self hlt
theorem mark_addr {h : Heap} {o n w i : Nat} {P S : List (List AV)} {r : List AV} (ho : h[o]? = some ⟨w, P ++ r :: S⟩) (hi : i = P.length) (hn : P.length + (S.length + 1) = n) : aIndexAddr w (.sl o n 0 n) (iv (i : Nat)) h = some (.ptr o n i 0) := by
  have i1 : idx (iv (i : Int)) n = some i := idx_lt (by omega)
  have hl : (P ++ r :: S).length = n := by simp; omega
  simp only [aIndexAddr, ho, hl, i1, and_self, if_true, Nat.zero_add]
theorem mark_store {h : Heap} {o n w i j : Nat} {P S : List (List AV)} {r : List AV} {v : AV} (ho : h[o]? = some ⟨w, P ++ r :: S⟩) (hi : i = P.length) (hn : P.length + (S.length + 1) = n) (hv : v.cells = [v]) (hf : v.flat = true) (hj : j < r.length) : aStore 1 (.ptr o n i j) v h = some (h.set o ⟨w, P ++ r.set j v :: S⟩) := by
  have hl : (P ++ r :: S).length = n := by simp; omega
  have hg : (P ++ r :: S)[i]? = some r := by simp [hi]
  simp only [aStore, ho, hl, if_true, hg]
  rw [if_pos ⟨by rw [hv]; rfl, by omega, by rw [hv]; simp [hf]⟩]
  congr 3
  rw [hi, hv]
  have hs : splice r j [v] = r.set j v := by
    unfold splice
    simp only [List.length_cons, List.length_nil, Nat.zero_add]
    exact (List.set_eq_take_append_cons_drop (l := r) (i := j) (a := v)).symm ▸ (by simp [hj])
  rw [hs]
  simp

theorem lp2_laws_markText (env : Nat → Contract) {y1 y2 y4 y5 y18 y19 : AV} : ∀ (k : Nat) (out : ByteArray) (h : Heap), k ≤ 8589934592 → k + out.size ≤ 4000000000 →
    ((obind (loopP hm0_laws_markText xm0_laws_markText (lb0_laws_markText env) [iv (k : Nat), y1, y2, sv out, y4, y5, .top, .top, .top, .top, .top, .top, .top, .top, .top, .top, .top, .top, y18, y19] h) fun r => lk0_laws_markText env r.1 r.2.1 r.2.2).map Prod.fst) = some (sv (⟨#[109]⟩ ++ digT k out)) := by
  intro k out
  induction k, out using digT.induct with
  | case1 out =>
    intro h h1 h2
    rw [loopP.eq_1, digT]
    have hs : (⟨#[109]⟩ : ByteArray).size = 1 := rfl
    have ha := add_str ⟨#[109]⟩ out (by omega)
    simp [e_lb0_laws_markText, restr, e_lk0x0_laws_markText, ha]
  | case2 k out hk ih =>
    intro h h1 h2
    have ih' := fun h => ih h (by omega) (by rw [size_one]; omega)
    have p : (0 : Int) < (k : Int) := by omega
    have a1 : (k : Int).tmod 10 = ((k % 10 : Nat) : Int) := by
      have := Int.ofNat_tmod k 10
      exact this.symm
    have a2 : wr (48 + ((k % 10 : Nat) : Int)) = ((48 + k % 10 : Nat) : Int) := by rw [wr_id (by omega) (by omega)]; omega
    have a3 : aConvInt .u8 (iv ((48 + k % 10 : Nat) : Int)) = some (bt (48 + k % 10).toUInt8) := by
      have h0 : aConvInt .u8 (iv ((48 + k % 10 : Nat) : Int)) = some (.sc (.int .u8 (IntKind.u8.wrap ((48 + k % 10 : Nat) : Int)))) := rfl
      rw [h0]
      unfold bt
      congr 3
    have a4 : (k : Int).tdiv 10 = ((k / 10 : Nat) : Int) := (Int.ofNat_tdiv k 10).symm
    have a5 : wr ((k / 10 : Nat) : Int) = ((k / 10 : Nat) : Int) := wr_id (by omega) (by omega)
    have a6 : ∀ b : UInt8, ∀ h : Heap, aBuildSlice [.sc (.int .u8 0)] 1 [(0, bt b)] h = some (.sl h.length 1 0 1, h ++ [⟨1, [[bt b]]⟩]) := fun b h => rfl
    have a7 : ∀ b : UInt8, ∀ h : Heap, aConvStr (.sl h.length 1 0 1) (h ++ [⟨1, [[bt b]]⟩]) = some (sv ⟨#[b]⟩) := by
      intro b h
      have h0 : aSrc false 1 (.sl h.length 1 0 1) (h ++ [⟨1, [[bt b]]⟩]) = some [[bt b]] := by
        simp [aSrc]
      unfold aConvStr
      rw [h0]
      have h1 : bytesOf [[bt b]] = some [b] := by
        show (match bytesOf [] with | some l => some (((b.toNat : Int)).toNat.toUInt8 :: l) | none => none) = _
        simp [bytesOf]
      show (match bytesOf [[bt b]] with | some l => some (AV.sc (Value.string ⟨l.toArray⟩)) | none => none) = _
      rw [h1]
      rfl
    have a8 := add_str ⟨#[(48 + k % 10).toUInt8]⟩ out (by have : (⟨#[(48 + k % 10).toUInt8]⟩ : ByteArray).size = 1 := rfl; omega)
    rw [loopP.eq_1, digT, dif_neg hk]
    simp only [e_lb0_laws_markText, aBin_gtr, obind_sm, condB_bv, p, decide_true, cond_true, aBin_rem _ 10 (by decide), a1, aBin_add, a2, a3, a6, obind2_sm, a7, a8, aBin_quo _ 10 (by decide), a4, a5, restr, cond_false]
    exact ih' _
theorem okB_laws_markText : PureOK Try.prog n_laws_markText (G1 (fun k : Int => decide (0 ≤ k) && decide (k ≤ 100000000)) fun k => sv (markT k.toNat)) :=
  pureG1 E0 mixed hb_laws_markText fun k h => by
  simp at h
  obtain ⟨m, rfl⟩ := Int.eq_ofNat_of_zero_le h.1
  refine plain_of rfl ?_
  by_cases hz : m = 0
  · subst hz
    simp [e_laws_markText, markT]
  · have hz' : ¬ ((m : Nat) : Int) ≤ 0 := by omega
    have hs : (⟨#[]⟩ : ByteArray).size = 0 := rfl
    have L := fun env {y1 y2 y4 y5 y18 y19} h => @lp2_laws_markText env y1 y2 y4 y5 y18 y19 m ⟨#[]⟩ h (by omega) (by omega)
    rw [e_laws_markText]
    simp only [enc_int, aBin_leq, obind_sm, condB_bv, hz', decide_false, cond_false, L, Int.toNat_natCast, markT, hz]

def s0_laws_szStringS (a_ : Sl ByteArray) : (Int × Int) → Option (Sum (Int × Int) (Sum Int Int)) := fun (w4, w5) =>
  bif decide (w5 < (((a_.getD []).length : Nat) : Int)) then
    obind (getI (a_.getD []) w5) fun a17 =>
    bif decide ((wr (w4 - (a17.size : Int))) < 0) then
      some (.inr (.inr (-1)))
    else
      some (.inl (wr (w4 - (a17.size : Int)), wr (w5 + 1)))
  else
    some (.inr (.inl w4))
def t_laws_szStringS (a_ : Sl ByteArray) (left_ : Int) : Option Int :=
  bif decide ((wr (left_ - (((a_.getD []).length : Nat) : Int))) < 0) then
    some (-1)
  else
    obind (loopT (s0_laws_szStringS a_) (wr (left_ - (((a_.getD []).length : Nat) : Int)), 0)) fun qq26 => match qq26 with
    | (.inl q8) =>
        some q8
    | (.inr q14) =>
        some q14

theorem tl0_laws_szStringS (env : Nat → Contract) {B : Base}  (a_ : Sl ByteArray) (left_ : Int)  {st : Int × Int} {tm : TM} {h : Heap} (R : (fun (st : Int × Int) tm h2 => match st with | (w4, w5) => tm = [Sl.enc a_, iv w4, und, und, AV.top, iv w5, iv left_, Sl.enc a_, iv (((a_.getD []).length : Nat) : Int), iv (wr (left_ - (((a_.getD []).length : Nat) : Int))), iv (wr (left_ - (((a_.getD []).length : Nat) : Int))), bv (decide ((wr (left_ - (((a_.getD []).length : Nat) : Int))) < 0)), AV.top, AV.top, AV.top, AV.top, AV.top, AV.top, AV.top, AV.top, AV.top, AV.top, AV.top, AV.top, AV.top, AV.top, AV.top, und] ∧ Hold B h2 []) st tm h) : Sim (loopP hm0_laws_szStringS xm0_laws_szStringS (lb0_laws_szStringS env) tm h) (loopT (s0_laws_szStringS a_) st) (fun (q : Sum Int Int) (r : Res) => match q with | .inl q8 => ∃ (q10 : Int) (z9 : AV) (h6 : Heap), r = (.exit 0, [Sl.enc a_, iv q8, und, und, z9, iv q10, iv left_, Sl.enc a_, iv (((a_.getD []).length : Nat) : Int), iv (wr (left_ - (((a_.getD []).length : Nat) : Int))), iv (wr (left_ - (((a_.getD []).length : Nat) : Int))), bv (decide ((wr (left_ - (((a_.getD []).length : Nat) : Int))) < 0)), AV.top, AV.top, AV.top, AV.top, AV.top, AV.top, AV.top, AV.top, AV.top, AV.top, AV.top, AV.top, AV.top, AV.top, AV.top, und], h6) ∧ Hold B h6 [] | .inr q14 => ∃ (q13 : Int) (q15 : Int) (h11 : Heap), r = (.ret, [Sl.enc a_, iv q13, und, und, iv q14, iv q15, iv left_, Sl.enc a_, iv (((a_.getD []).length : Nat) : Int), iv (wr (left_ - (((a_.getD []).length : Nat) : Int))), iv (wr (left_ - (((a_.getD []).length : Nat) : Int))), bv (decide ((wr (left_ - (((a_.getD []).length : Nat) : Int))) < 0)), AV.top, AV.top, AV.top, AV.top, AV.top, AV.top, AV.top, AV.top, AV.top, AV.top, AV.top, AV.top, AV.top, AV.top, AV.top, und], h11) ∧ Hold B h11 []) := by
  refine loop_sim (Rel := fun (st : Int × Int) tm h2 => match st with | (w4, w5) => tm = [Sl.enc a_, iv w4, und, und, AV.top, iv w5, iv left_, Sl.enc a_, iv (((a_.getD []).length : Nat) : Int), iv (wr (left_ - (((a_.getD []).length : Nat) : Int))), iv (wr (left_ - (((a_.getD []).length : Nat) : Int))), bv (decide ((wr (left_ - (((a_.getD []).length : Nat) : Int))) < 0)), AV.top, AV.top, AV.top, AV.top, AV.top, AV.top, AV.top, AV.top, AV.top, AV.top, AV.top, AV.top, AV.top, AV.top, AV.top, und] ∧ Hold B h2 []) (fun st tm h2 R => ?_) R
  obtain ⟨w4, w5⟩ := st
  obtain ⟨rfl, O3⟩ := R
  rw [e_lb0_laws_szStringS]
  unfold s0_laws_szStringS
  dsimp only
  refine sim_let (v := iv (((a_.getD []).length : Nat) : Int)) (Tab.enc h2 a_).len ?_
  refine sim_let (v := bv (decide (w5 < (((a_.getD []).length : Nat) : Int)))) (aBin_lss _ _) ?_
  refine sim_cond (fun c16 => ?_) (fun c16 => ?_)
  · refine sim_get (Tab.enc h2 a_) (fun m18 a17 hi19 hm20 => ?_)
    refine sim_let (v := sv a17) ((Tab.enc h2 a_).ld hm20 false 1 0) ?_
    refine sim_let (v := iv (a17.size : Int)) rfl ?_
    refine sim_let (v := iv (wr (w4 - (a17.size : Int)))) (aBin_sub _ _) ?_
    refine sim_let (v := bv (decide ((wr (w4 - (a17.size : Int))) < 0))) (aBin_lss _ _) ?_
    refine sim_cond (fun c21 => ?_) (fun c21 => ?_)
    · exact sim_ret ⟨nofun, _, _, _, rfl, O3⟩
    · refine sim_let (v := iv (wr (w5 + 1))) (aBin_add _ _) ?_
      exact sim_ret ⟨rfl, rfl, O3⟩
  · exact sim_ret ⟨nofun, _, _, _, rfl, O3⟩
theorem ts_laws_szStringS (env : Nat → Contract)  (a_ : Sl ByteArray) (left_ : Int) : Sim (denFn Try.prog env n_laws_szStringS [Sl.enc a_, iv left_] []) (t_laws_szStringS a_ left_) fun c p => release p.2 depth p.1 = some ((fun c : Int => enc c) c) := by
  have O := Hold.nil []
  generalize hB : (⟨[], []⟩ : Base) = B at O
  clear hB
  rw [e_laws_szStringS]
  unfold t_laws_szStringS
  refine sim_let (v := iv (((a_.getD []).length : Nat) : Int)) (Tab.enc [] a_).len ?_
  refine sim_let (v := iv (wr (left_ - (((a_.getD []).length : Nat) : Int)))) (aBin_sub _ _) ?_
  refine sim_let (v := bv (decide ((wr (left_ - (((a_.getD []).length : Nat) : Int))) < 0))) (aBin_lss _ _) ?_
  refine sim_cond (fun c1 => ?_) (fun c1 => ?_)
  · exact sim_ret (release_plain (by rfl) _)
  · refine sim_bind ((tl0_laws_szStringS env a_ left_) ⟨rfl, O⟩) (fun qq26 r hq => ?_)
    rcases qq26 with q8 | q14
    · obtain ⟨q10, z9, h6, rfl, O7⟩ := hq
      rw [e_lk0x0_laws_szStringS]
      exact sim_ret (release_plain (by rfl) _)
    · obtain ⟨q13, q15, h11, rfl, O12⟩ := hq
      rw [e_lk0r_laws_szStringS]
      exact sim_ret (release_plain (by rfl) _)
theorem tt_laws_szStringS : PureOK Try.prog n_laws_szStringS (C2 (fun c : Int => enc c) t_laws_szStringS) := pureC2 E0 mixed hb_laws_szStringS fun a_ left_ => ts_laws_szStringS _  a_ left_

def s0_laws_szStringSS (a_ : Sl (Sl ByteArray)) : (Int × Int) → Option (Sum (Int × Int) (Sum Int Int)) := fun (w4, w5) =>
  bif decide (w5 < (((a_.getD []).length : Nat) : Int)) then
    obind (getI (a_.getD []) w5) fun a17 =>
    obind (t_laws_szStringS a17 w4) fun c21 =>
    bif decide (c21 < 0) then
      some (.inr (.inr (-1)))
    else
      some (.inl (c21, wr (w5 + 1)))
  else
    some (.inr (.inl w4))
def t_laws_szStringSS (a_ : Sl (Sl ByteArray)) (left_ : Int) : Option Int :=
  bif decide ((wr (left_ - (((a_.getD []).length : Nat) : Int))) < 0) then
    some (-1)
  else
    obind (loopT (s0_laws_szStringSS a_) (wr (left_ - (((a_.getD []).length : Nat) : Int)), 0)) fun qq27 => match qq27 with
    | (.inl q8) =>
        some q8
    | (.inr q14) =>
        some q14

theorem tl0_laws_szStringSS (env : Nat → Contract) {B : Base} (he_laws_szStringS : env n_laws_szStringS = .pure (C2 (fun c : Int => enc c) t_laws_szStringS)) (a_ : Sl (Sl ByteArray)) (left_ : Int)  {st : Int × Int} {tm : TM} {h : Heap} (R : (fun (st : Int × Int) tm h2 => match st with | (w4, w5) => tm = [Sl.enc a_, iv w4, und, und, AV.top, iv w5, iv left_, Sl.enc a_, iv (((a_.getD []).length : Nat) : Int), iv (wr (left_ - (((a_.getD []).length : Nat) : Int))), iv (wr (left_ - (((a_.getD []).length : Nat) : Int))), bv (decide ((wr (left_ - (((a_.getD []).length : Nat) : Int))) < 0)), AV.top, AV.top, AV.top, AV.top, AV.top, AV.top, AV.top, AV.top, AV.top, AV.top, AV.top, AV.top, AV.top, AV.top, und] ∧ Hold B h2 []) st tm h) : Sim (loopP hm0_laws_szStringSS xm0_laws_szStringSS (lb0_laws_szStringSS env) tm h) (loopT (s0_laws_szStringSS a_) st) (fun (q : Sum Int Int) (r : Res) => match q with | .inl q8 => ∃ (q10 : Int) (z9 : AV) (h6 : Heap), r = (.exit 0, [Sl.enc a_, iv q8, und, und, z9, iv q10, iv left_, Sl.enc a_, iv (((a_.getD []).length : Nat) : Int), iv (wr (left_ - (((a_.getD []).length : Nat) : Int))), iv (wr (left_ - (((a_.getD []).length : Nat) : Int))), bv (decide ((wr (left_ - (((a_.getD []).length : Nat) : Int))) < 0)), AV.top, AV.top, AV.top, AV.top, AV.top, AV.top, AV.top, AV.top, AV.top, AV.top, AV.top, AV.top, AV.top, AV.top, und], h6) ∧ Hold B h6 [] | .inr q14 => ∃ (q13 : Int) (q15 : Int) (h11 : Heap), r = (.ret, [Sl.enc a_, iv q13, und, und, iv q14, iv q15, iv left_, Sl.enc a_, iv (((a_.getD []).length : Nat) : Int), iv (wr (left_ - (((a_.getD []).length : Nat) : Int))), iv (wr (left_ - (((a_.getD []).length : Nat) : Int))), bv (decide ((wr (left_ - (((a_.getD []).length : Nat) : Int))) < 0)), AV.top, AV.top, AV.top, AV.top, AV.top, AV.top, AV.top, AV.top, AV.top, AV.top, AV.top, AV.top, AV.top, AV.top, und], h11) ∧ Hold B h11 []) := by
  refine loop_sim (Rel := fun (st : Int × Int) tm h2 => match st with | (w4, w5) => tm = [Sl.enc a_, iv w4, und, und, AV.top, iv w5, iv left_, Sl.enc a_, iv (((a_.getD []).length : Nat) : Int), iv (wr (left_ - (((a_.getD []).length : Nat) : Int))), iv (wr (left_ - (((a_.getD []).length : Nat) : Int))), bv (decide ((wr (left_ - (((a_.getD []).length : Nat) : Int))) < 0)), AV.top, AV.top, AV.top, AV.top, AV.top, AV.top, AV.top, AV.top, AV.top, AV.top, AV.top, AV.top, AV.top, AV.top, und] ∧ Hold B h2 []) (fun st tm h2 R => ?_) R
  obtain ⟨w4, w5⟩ := st
  obtain ⟨rfl, O3⟩ := R
  rw [e_lb0_laws_szStringSS]
  unfold s0_laws_szStringSS
  dsimp only
  refine sim_let (v := iv (((a_.getD []).length : Nat) : Int)) (Tab.enc h2 a_).len ?_
  refine sim_let (v := bv (decide (w5 < (((a_.getD []).length : Nat) : Int)))) (aBin_lss _ _) ?_
  refine sim_cond (fun c16 => ?_) (fun c16 => ?_)
  · refine sim_get (Tab.enc h2 a_) (fun m18 a17 hi19 hm20 => ?_)
    refine sim_let (v := Sl.enc a17) ((Tab.enc h2 a_).ld hm20 false 1 0) ?_
    refine sim_call2 he_laws_szStringS (snapD_enc _ _) (snapD_int _ _) (fun c21 => ?_)
    refine sim_let2 (hand_plain (by rfl) _ _) ?_
    refine sim_let (v := bv (decide (c21 < 0))) (aBin_lss _ _) ?_
    refine sim_cond (fun c22 => ?_) (fun c22 => ?_)
    · exact sim_ret ⟨nofun, _, _, _, rfl, O3⟩
    · refine sim_let (v := iv (wr (w5 + 1))) (aBin_add _ _) ?_
      exact sim_ret ⟨rfl, rfl, O3⟩
  · exact sim_ret ⟨nofun, _, _, _, rfl, O3⟩
theorem ts_laws_szStringSS (env : Nat → Contract) (he_laws_szStringS : env n_laws_szStringS = .pure (C2 (fun c : Int => enc c) t_laws_szStringS)) (a_ : Sl (Sl ByteArray)) (left_ : Int) : Sim (denFn Try.prog env n_laws_szStringSS [Sl.enc a_, iv left_] []) (t_laws_szStringSS a_ left_) fun c p => release p.2 depth p.1 = some ((fun c : Int => enc c) c) := by
  have O := Hold.nil []
  generalize hB : (⟨[], []⟩ : Base) = B at O
  clear hB
  rw [e_laws_szStringSS]
  unfold t_laws_szStringSS
  refine sim_let (v := iv (((a_.getD []).length : Nat) : Int)) (Tab.enc [] a_).len ?_
  refine sim_let (v := iv (wr (left_ - (((a_.getD []).length : Nat) : Int)))) (aBin_sub _ _) ?_
  refine sim_let (v := bv (decide ((wr (left_ - (((a_.getD []).length : Nat) : Int))) < 0))) (aBin_lss _ _) ?_
  refine sim_cond (fun c1 => ?_) (fun c1 => ?_)
  · exact sim_ret (release_plain (by rfl) _)
  · refine sim_bind ((tl0_laws_szStringSS env he_laws_szStringS a_ left_) ⟨rfl, O⟩) (fun qq27 r hq => ?_)
    rcases qq27 with q8 | q14
    · obtain ⟨q10, z9, h6, rfl, O7⟩ := hq
      rw [e_lk0x0_laws_szStringSS]
      exact sim_ret (release_plain (by rfl) _)
    · obtain ⟨q13, q15, h11, rfl, O12⟩ := hq
      rw [e_lk0r_laws_szStringSS]
      exact sim_ret (release_plain (by rfl) _)
theorem tt_laws_szStringSS : PureOK Try.prog n_laws_szStringSS (C2 (fun c : Int => enc c) t_laws_szStringSS) := pureC2 (Econs tt_laws_szStringS E0) mixed hb_laws_szStringSS fun a_ left_ => ts_laws_szStringSS _ (by simp [envL]) a_ left_

def s0_laws_toStringS (a_ : Sl ByteArray) : ((Sl ByteArray) × Int) → Option (Sum ((Sl ByteArray) × Int) (Sl ByteArray)) := fun (w6, w9) =>
  bif decide (w9 < (((a_.getD []).length : Nat) : Int)) then
    obind (getI (a_.getD []) w9) fun a15 =>
    obind (getI (w6.getD []) w9) fun a19 =>
    some (.inl ((setS w6 w9 a15), wr (w9 + 1)))
  else
    some (.inr w6)
def t_laws_toStringS (a_ : Sl ByteArray) : Option (Sl ByteArray) :=
  obind (makeO (⟨#[]⟩ : ByteArray) (((a_.getD []).length : Nat) : Int)) fun l5 =>
  obind (loopT (s0_laws_toStringS a_) ((some l5), 0)) fun q12 =>
  some q12

theorem tl0_laws_toStringS (env : Nat → Contract) {B : Base}  (a_ : Sl ByteArray) (x1 : AV)  {st : (Sl ByteArray) × Int} {tm : TM} {h : Heap} (R : (fun (st : (Sl ByteArray) × Int) tm h7 => match st with | (w6, w9) => tm = [Sl.enc a_, und, nilS, x1, iv w9, Sl.enc a_, iv (((a_.getD []).length : Nat) : Int), x1, AV.top, AV.top, AV.top, AV.top, AV.top, AV.top, AV.top, AV.top, AV.top, AV.top, AV.top, AV.top, AV.top, und] ∧ Hold B h7 [(x1, obS (w6 : Sl ByteArray))]) st tm h) : Sim (loopP hm0_laws_toStringS xm0_laws_toStringS (lb0_laws_toStringS env) tm h) (loopT (s0_laws_toStringS a_) st) (fun (q : Sl ByteArray) (r : Res) => match q with | q12 => ∃ (q13 : Int) (h10 : Heap), r = (.exit 0, [Sl.enc a_, und, nilS, x1, iv q13, Sl.enc a_, iv (((a_.getD []).length : Nat) : Int), x1, AV.top, AV.top, AV.top, AV.top, AV.top, AV.top, AV.top, AV.top, AV.top, AV.top, AV.top, AV.top, AV.top, und], h10) ∧ Hold B h10 [(x1, obS (q12 : Sl ByteArray))]) := by
  refine loop_sim (Rel := fun (st : (Sl ByteArray) × Int) tm h7 => match st with | (w6, w9) => tm = [Sl.enc a_, und, nilS, x1, iv w9, Sl.enc a_, iv (((a_.getD []).length : Nat) : Int), x1, AV.top, AV.top, AV.top, AV.top, AV.top, AV.top, AV.top, AV.top, AV.top, AV.top, AV.top, AV.top, AV.top, und] ∧ Hold B h7 [(x1, obS (w6 : Sl ByteArray))]) (fun st tm h7 R => ?_) R
  obtain ⟨w6, w9⟩ := st
  obtain ⟨rfl, O8⟩ := R
  rw [e_lb0_laws_toStringS]
  unfold s0_laws_toStringS
  dsimp only
  refine sim_let (v := iv (((a_.getD []).length : Nat) : Int)) (Tab.enc h7 a_).len ?_
  refine sim_let (v := bv (decide (w9 < (((a_.getD []).length : Nat) : Int)))) (aBin_lss _ _) ?_
  refine sim_cond (fun c14 => ?_) (fun c14 => ?_)
  · refine sim_get (Tab.enc h7 a_) (fun m16 a15 hi17 hm18 => ?_)
    refine sim_let (v := sv a15) ((Tab.enc h7 a_).ld hm18 false 1 0) ?_
    refine sim_get (O8.tab (A := ByteArray) (s := w6) 0 rfl) (fun m20 a19 hi21 hm22 => ?_)
    refine sim_set (A := ByteArray) O8 0 a15 rfl hi21 hm22 rfl (by simp) (by first | rfl | simp) (by first | rfl | simp [splice]) (fun h23 O24 => ?_)
    replace O24 : Hold B h23 [(x1, obS ((setS w6 w9 a15) : Sl ByteArray))] := O24
    refine sim_let (v := iv (wr (w9 + 1))) (aBin_add _ _) ?_
    exact sim_ret ⟨rfl, rfl, O24⟩
  · exact sim_ret ⟨nofun, _, _, rfl, O8⟩
theorem ts_laws_toStringS (env : Nat → Contract)  (a_ : Sl ByteArray) : Sim (denFn Try.prog env n_laws_toStringS [Sl.enc a_] []) (t_laws_toStringS a_) fun c p => release p.2 depth p.1 = some ((fun c : (Sl ByteArray) => rS c) c) := by
  have O := Hold.nil []
  generalize hB : (⟨[], []⟩ : Base) = B at O
  clear hB
  rw [e_laws_toStringS]
  unfold t_laws_toStringS
  refine sim_let (v := iv (((a_.getD []).length : Nat) : Int)) (Tab.enc [] a_).len ?_
  refine sim_make (A := ByteArray) O (⟨#[]⟩ : ByteArray) rfl (by decide) (fun l5 x1 h2 O3 => ?_)
  replace O3 : Hold B h2 [(x1, obS ((some l5) : Sl ByteArray))] := O3
  refine sim_bind ((tl0_laws_toStringS env a_ x1) ⟨rfl, O3⟩) (fun qq28 r hq => ?_)
  revert hq
  revert qq28
  intro q12 hq
  obtain ⟨q13, h10, rfl, O11⟩ := hq
  rw [e_lk0x0_laws_toStringS]
  exact sim_ret (O11.rel (A := ByteArray) (s := q12) 0 rfl)
theorem tt_laws_toStringS : PureOK Try.prog n_laws_toStringS (C1 (fun c : (Sl ByteArray) => rS c) t_laws_toStringS) := pureC1 E0 mixed hb_laws_toStringS fun a_ => ts_laws_toStringS _  a_

def s0_laws_toStringSS (a_ : Sl (Sl ByteArray)) : ((Sl (Sl ByteArray)) × Int) → Option (Sum ((Sl (Sl ByteArray)) × Int) (Sl (Sl ByteArray))) := fun (w8, w13) =>
  bif decide (w13 < (((a_.getD []).length : Nat) : Int)) then
    obind (getI (a_.getD []) w13) fun a22 =>
    obind (t_laws_toStringS a22) fun c26 =>
    obind (getI (w8.getD []) w13) fun a31 =>
    some (.inl ((setS w8 w13 c26), wr (w13 + 1)))
  else
    some (.inr w8)
def t_laws_toStringSS (a_ : Sl (Sl ByteArray)) : Option (Sl (Sl ByteArray)) :=
  obind (makeO (none : Sl ByteArray) (((a_.getD []).length : Nat) : Int)) fun l5 =>
  obind (loopT (s0_laws_toStringSS a_) ((some l5), 0)) fun q16 =>
  some q16

theorem tl0_laws_toStringSS (env : Nat → Contract) {B : Base} (he_laws_toStringS : env n_laws_toStringS = .pure (C1 (fun c : (Sl ByteArray) => rS c) t_laws_toStringS)) (a_ : Sl (Sl ByteArray)) (x1 : AV)  {st : (Sl (Sl ByteArray)) × Int} {tm : TM} {h : Heap} (R : (fun (st : (Sl (Sl ByteArray)) × Int) tm h11 => match st with | (w8, w13) => ∃ ps9 : PS (Sl ByteArray), tm = [Sl.enc a_, und, nilS, x1, iv w13, Sl.enc a_, iv (((a_.getD []).length : Nat) : Int), x1, AV.top, AV.top, AV.top, AV.top, AV.top, AV.top, AV.top, AV.top, AV.top, AV.top, AV.top, AV.top, AV.top, AV.top, und] ∧ pj ps9 = w8 ∧ Hold B h11 ([] ++ D2 (A := (Sl ByteArray)) x1 ps9)) st tm h) : Sim (loopP hm0_laws_toStringSS xm0_laws_toStringSS (lb0_laws_toStringSS env) tm h) (loopT (s0_laws_toStringSS a_) st) (fun (q : Sl (Sl ByteArray)) (r : Res) => match q with | q16 => ∃ (q19 : Int) (ps17 : PS (Sl ByteArray)) (h14 : Heap), r = (.exit 0, [Sl.enc a_, und, nilS, x1, iv q19, Sl.enc a_, iv (((a_.getD []).length : Nat) : Int), x1, AV.top, AV.top, AV.top, AV.top, AV.top, AV.top, AV.top, AV.top, AV.top, AV.top, AV.top, AV.top, AV.top, AV.top, und], h14) ∧ pj ps17 = q16 ∧ Hold B h14 ([] ++ D2 (A := (Sl ByteArray)) x1 ps17)) := by
  refine loop_sim (Rel := fun (st : (Sl (Sl ByteArray)) × Int) tm h11 => match st with | (w8, w13) => ∃ ps9 : PS (Sl ByteArray), tm = [Sl.enc a_, und, nilS, x1, iv w13, Sl.enc a_, iv (((a_.getD []).length : Nat) : Int), x1, AV.top, AV.top, AV.top, AV.top, AV.top, AV.top, AV.top, AV.top, AV.top, AV.top, AV.top, AV.top, AV.top, AV.top, und] ∧ pj ps9 = w8 ∧ Hold B h11 ([] ++ D2 (A := (Sl ByteArray)) x1 ps9)) (fun st tm h11 R => ?_) R
  obtain ⟨w8, w13⟩ := st
  obtain ⟨ps9, rfl, hp10, O12⟩ := R
  rw [e_lb0_laws_toStringSS]
  unfold s0_laws_toStringSS
  dsimp only
  refine sim_let (v := iv (((a_.getD []).length : Nat) : Int)) (Tab.enc h11 a_).len ?_
  refine sim_let (v := bv (decide (w13 < (((a_.getD []).length : Nat) : Int)))) (aBin_lss _ _) ?_
  refine sim_cond (fun c21 => ?_) (fun c21 => ?_)
  · refine sim_get (Tab.enc h11 a_) (fun m23 a22 hi24 hm25 => ?_)
    refine sim_let (v := Sl.enc a22) ((Tab.enc h11 a_).ld hm25 false 1 0) ?_
    refine sim_call1 he_laws_toStringS (snapD_enc _ _) (fun c26 => ?_)
    refine sim_hand (A := ByteArray) O12 (fun x28 h29 O30 => ?_)
    replace O30 : Hold B h29 ([(x28, obS (c26 : Sl ByteArray))] ++ D2 (A := (Sl ByteArray)) x1 ps9) := Hold.rot O30
    refine sim_getN (l := [(x28, obS (c26 : Sl ByteArray))]) (x := x1) (ps := ps9) (A := (Sl ByteArray)) O30 hp10 (fun m32 a31 x35 hi33 hm34 hg36 => ?_)
    have O39 := O30
    refine sim_setRow (l := []) (x := x1) (ps := ps9) (a' := c26) O39 hp10 hi33 hm34 (by simp) (by first | rfl | simp [splice, Inn.row]) (fun ps40 h37 hp41 O38 => ?_)
    refine sim_let (v := iv (wr (w13 + 1))) (aBin_add _ _) ?_
    exact sim_ret ⟨rfl, _, rfl, hp41, O38⟩
  · exact sim_ret ⟨nofun, _, _, _, rfl, hp10, O12⟩
theorem ts_laws_toStringSS (env : Nat → Contract) (he_laws_toStringS : env n_laws_toStringS = .pure (C1 (fun c : (Sl ByteArray) => rS c) t_laws_toStringS)) (a_ : Sl (Sl ByteArray)) : Sim (denFn Try.prog env n_laws_toStringSS [Sl.enc a_] []) (t_laws_toStringSS a_) fun c p => release p.2 depth p.1 = some ((fun c : (Sl (Sl ByteArray)) => rD c) c) := by
  have O := Hold.nil []
  generalize hB : (⟨[], []⟩ : Base) = B at O
  clear hB
  rw [e_laws_toStringSS]
  unfold t_laws_toStringSS
  refine sim_let (v := iv (((a_.getD []).length : Nat) : Int)) (Tab.enc [] a_).len ?_
  refine sim_makeN (l := []) (A := (Sl ByteArray)) O (none : Sl ByteArray) rfl rfl (by decide) (fun l5 x1 ps6 h2 hp7 O3 => ?_)
  refine sim_bind ((tl0_laws_toStringSS env he_laws_toStringS a_ x1) ⟨_, rfl, hp7, O3⟩) (fun qq45 r hq => ?_)
  revert hq
  revert qq45
  intro q16 hq
  obtain ⟨q19, ps17, h14, rfl, hp18, O15⟩ := hq
  rw [e_lk0x0_laws_toStringSS]
  have O20 : Hold B h14 ([] ++ D2 (A := (Sl ByteArray)) x1 ps17) := O15.selD [] (by decide) rfl
  exact sim_ret (release_of (by simp only [ids_tup, ids_aggD, ids_agg, ids_iv, ids_bv, ids_sv, ids_bt, ids_nilS, ids_enc, D2.ids8 (l := []) (x := x1) (ps := ps17) (A := (Sl ByteArray)) O20, List.map_append, List.map_nil, List.flatMap_cons, List.flatMap_nil, List.append_nil, List.nil_append]; simpa only [List.flatMap_cons, List.flatMap_nil, List.append_nil, List.nil_append] using O20.nd2) (by simp only [rel_tup, rel_aggD, rel_agg, rel_iv, rel_bv, rel_sv, rel_bt, rel_nilS, rel_enc, D2.rel8 (l := []) (x := x1) (ps := ps17) (A := (Sl ByteArray)) O20 hp18, omapc, omapn, obind_sm] <;> rfl))
theorem tt_laws_toStringSS : PureOK Try.prog n_laws_toStringSS (C1 (fun c : (Sl (Sl ByteArray)) => rD c) t_laws_toStringSS) := pureC1 (Econs tt_laws_toStringS E0) mixed hb_laws_toStringSS fun a_ => ts_laws_toStringSS _ (by simp [envL]) a_

def s0_spec_IsWord (s_ : ByteArray) : Int → Option (Sum Int (Sum Unit Bool)) := fun w3 =>
  bif decide (w3 < (s_.size : Int)) then
    obind (getB s_ w3) fun b14 =>
    obind (some (isLow b14)) fun c15 =>
    bif !c15 then
      some (.inr (.inr false))
    else
      some (.inl (wr (w3 + 1)))
  else
    some (.inr (.inl ()))
def t_spec_IsWord (s_ : ByteArray) : Option Bool :=
  obind (loopT (s0_spec_IsWord s_) 0) fun qq21 => match qq21 with
  | (.inl _) =>
      obind (some (within (s_.size : Int) 1 10)) fun c8 =>
      some c8
  | (.inr q11) =>
      some q11

theorem tl0_spec_IsWord (env : Nat → Contract) {B : Base} (he_spec_l00In : env n_spec_l00In = .pure (T3 within)) (he_spec_l01Small : env n_spec_l01Small = .pure (T1 isLow)) (s_ : ByteArray)  {st : Int} {tm : TM} {h : Heap} (R : (fun (st : Int) tm h1 => match st with | w3 => tm = [sv s_, und, AV.top, iv w3, AV.top, AV.top, AV.top, AV.top, AV.top, AV.top, AV.top, AV.top, AV.top, AV.top, AV.top, und, und, und] ∧ Hold B h1 []) st tm h) : Sim (loopP hm0_spec_IsWord xm0_spec_IsWord (lb0_spec_IsWord env) tm h) (loopT (s0_spec_IsWord s_) st) (fun (q : Sum Unit Bool) (r : Res) => match q with | .inl _ => ∃ (q7 : Int) (z6 : AV) (h4 : Heap), r = (.exit 0, [sv s_, und, z6, iv q7, AV.top, AV.top, AV.top, AV.top, AV.top, AV.top, AV.top, AV.top, AV.top, AV.top, AV.top, und, und, und], h4) ∧ Hold B h4 [] | .inr q11 => ∃ (q12 : Int) (h9 : Heap), r = (.ret, [sv s_, und, bv q11, iv q12, AV.top, AV.top, AV.top, AV.top, AV.top, AV.top, AV.top, AV.top, AV.top, AV.top, AV.top, und, und, und], h9) ∧ Hold B h9 []) := by
  refine loop_sim (Rel := fun (st : Int) tm h1 => match st with | w3 => tm = [sv s_, und, AV.top, iv w3, AV.top, AV.top, AV.top, AV.top, AV.top, AV.top, AV.top, AV.top, AV.top, AV.top, AV.top, und, und, und] ∧ Hold B h1 []) (fun w3 tm h1 R => ?_) R
  obtain ⟨rfl, O2⟩ := R
  rw [e_lb0_spec_IsWord]
  unfold s0_spec_IsWord
  dsimp only
  refine sim_let (v := iv (s_.size : Int)) rfl ?_
  refine sim_let (v := bv (decide (w3 < (s_.size : Int)))) (aBin_lss _ _) ?_
  refine sim_cond (fun c13 => ?_) (fun c13 => ?_)
  · refine sim_getB (fun b14 => ?_)
    refine sim_callV1 (t := isLow) he_spec_l01Small (snapD_byte _ _) (fun c15 => ?_)
    refine sim_let (v := bv (!c15)) (aUn_not _) ?_
    refine sim_cond (fun c16 => ?_) (fun c16 => ?_)
    · exact sim_ret ⟨nofun, _, _, rfl, O2⟩
    · refine sim_let (v := iv (wr (w3 + 1))) (aBin_add _ _) ?_
      exact sim_ret ⟨rfl, rfl, O2⟩
  · exact sim_ret ⟨nofun, _, _, _, rfl, O2⟩
theorem ts_spec_IsWord (env : Nat → Contract) (he_spec_l00In : env n_spec_l00In = .pure (T3 within)) (he_spec_l01Small : env n_spec_l01Small = .pure (T1 isLow)) (s_ : ByteArray) : Sim (denFn Try.prog env n_spec_IsWord [sv s_] []) (t_spec_IsWord s_) fun c p => release p.2 depth p.1 = some ((fun c : Bool => enc c) c) := by
  have O := Hold.nil []
  generalize hB : (⟨[], []⟩ : Base) = B at O
  clear hB
  rw [e_spec_IsWord]
  unfold t_spec_IsWord
  refine sim_bind ((tl0_spec_IsWord env he_spec_l00In he_spec_l01Small s_) ⟨rfl, O⟩) (fun qq21 r hq => ?_)
  rcases qq21 with _ | q11
  · obtain ⟨q7, z6, h4, rfl, O5⟩ := hq
    rw [e_lk0x0_spec_IsWord]
    refine sim_let (v := iv (s_.size : Int)) rfl ?_
    refine sim_callV3 (t := within) he_spec_l00In (snapD_int _ _) (snapD_int _ _) (snapD_int _ _) (fun c8 => ?_)
    exact sim_ret (release_plain (by rfl) _)
  · obtain ⟨q12, h9, rfl, O10⟩ := hq
    rw [e_lk0r_spec_IsWord]
    exact sim_ret (release_plain (by rfl) _)
theorem tt_spec_IsWord : PureOK Try.prog n_spec_IsWord (C1 (fun c : Bool => enc c) t_spec_IsWord) := pureC1 (Econs ok_spec_l00In (Econs ok_spec_l01Small E0)) mixed hb_spec_IsWord fun s_ => ts_spec_IsWord _ (by simp [envL]) (by simp [envL]) s_

def s0_spec_l18Plain (words_ : Sl ByteArray) : Int → Option (Sum Int (Sum Unit Bool)) := fun w3 =>
  bif decide (w3 < (((words_.getD []).length : Nat) : Int)) then
    obind (getI (words_.getD []) w3) fun a13 =>
    obind (t_spec_IsWord a13) fun c17 =>
    bif !c17 then
      some (.inr (.inr false))
    else
      some (.inl (wr (w3 + 1)))
  else
    some (.inr (.inl ()))
def t_spec_l18Plain (words_ : Sl ByteArray) : Option Bool :=
  obind (loopT (s0_spec_l18Plain words_) 0) fun qq23 => match qq23 with
  | (.inl _) =>
      some true
  | (.inr q10) =>
      some q10

theorem tl0_spec_l18Plain (env : Nat → Contract) {B : Base} (he_spec_IsWord : env n_spec_IsWord = .pure (C1 (fun c : Bool => enc c) t_spec_IsWord)) (words_ : Sl ByteArray)  {st : Int} {tm : TM} {h : Heap} (R : (fun (st : Int) tm h1 => match st with | w3 => tm = [Sl.enc words_, und, AV.top, iv w3, AV.top, AV.top, AV.top, AV.top, AV.top, AV.top, AV.top, AV.top, AV.top, AV.top, AV.top, AV.top] ∧ Hold B h1 []) st tm h) : Sim (loopP hm0_spec_l18Plain xm0_spec_l18Plain (lb0_spec_l18Plain env) tm h) (loopT (s0_spec_l18Plain words_) st) (fun (q : Sum Unit Bool) (r : Res) => match q with | .inl _ => ∃ (q7 : Int) (z6 : AV) (h4 : Heap), r = (.exit 0, [Sl.enc words_, und, z6, iv q7, AV.top, AV.top, AV.top, AV.top, AV.top, AV.top, AV.top, AV.top, AV.top, AV.top, AV.top, AV.top], h4) ∧ Hold B h4 [] | .inr q10 => ∃ (q11 : Int) (h8 : Heap), r = (.ret, [Sl.enc words_, und, bv q10, iv q11, AV.top, AV.top, AV.top, AV.top, AV.top, AV.top, AV.top, AV.top, AV.top, AV.top, AV.top, AV.top], h8) ∧ Hold B h8 []) := by
  refine loop_sim (Rel := fun (st : Int) tm h1 => match st with | w3 => tm = [Sl.enc words_, und, AV.top, iv w3, AV.top, AV.top, AV.top, AV.top, AV.top, AV.top, AV.top, AV.top, AV.top, AV.top, AV.top, AV.top] ∧ Hold B h1 []) (fun w3 tm h1 R => ?_) R
  obtain ⟨rfl, O2⟩ := R
  rw [e_lb0_spec_l18Plain]
  unfold s0_spec_l18Plain
  dsimp only
  refine sim_let (v := iv (((words_.getD []).length : Nat) : Int)) (Tab.enc h1 words_).len ?_
  refine sim_let (v := bv (decide (w3 < (((words_.getD []).length : Nat) : Int)))) (aBin_lss _ _) ?_
  refine sim_cond (fun c12 => ?_) (fun c12 => ?_)
  · refine sim_get (Tab.enc h1 words_) (fun m14 a13 hi15 hm16 => ?_)
    refine sim_let (v := sv a13) ((Tab.enc h1 words_).ld hm16 false 1 0) ?_
    refine sim_call1 he_spec_IsWord (snapD_str _ _) (fun c17 => ?_)
    refine sim_let2 (hand_plain (by rfl) _ _) ?_
    refine sim_let (v := bv (!c17)) (aUn_not _) ?_
    refine sim_cond (fun c18 => ?_) (fun c18 => ?_)
    · exact sim_ret ⟨nofun, _, _, rfl, O2⟩
    · refine sim_let (v := iv (wr (w3 + 1))) (aBin_add _ _) ?_
      exact sim_ret ⟨rfl, rfl, O2⟩
  · exact sim_ret ⟨nofun, _, _, _, rfl, O2⟩
theorem ts_spec_l18Plain (env : Nat → Contract) (he_spec_IsWord : env n_spec_IsWord = .pure (C1 (fun c : Bool => enc c) t_spec_IsWord)) (words_ : Sl ByteArray) : Sim (denFn Try.prog env n_spec_l18Plain [Sl.enc words_] []) (t_spec_l18Plain words_) fun c p => release p.2 depth p.1 = some ((fun c : Bool => enc c) c) := by
  have O := Hold.nil []
  generalize hB : (⟨[], []⟩ : Base) = B at O
  clear hB
  rw [e_spec_l18Plain]
  unfold t_spec_l18Plain
  refine sim_bind ((tl0_spec_l18Plain env he_spec_IsWord words_) ⟨rfl, O⟩) (fun qq23 r hq => ?_)
  rcases qq23 with _ | q10
  · obtain ⟨q7, z6, h4, rfl, O5⟩ := hq
    rw [e_lk0x0_spec_l18Plain]
    exact sim_ret (release_plain (by rfl) _)
  · obtain ⟨q11, h8, rfl, O9⟩ := hq
    rw [e_lk0r_spec_l18Plain]
    exact sim_ret (release_plain (by rfl) _)
theorem tt_spec_l18Plain : PureOK Try.prog n_spec_l18Plain (C1 (fun c : Bool => enc c) t_spec_l18Plain) := pureC1 (Econs tt_spec_IsWord E0) mixed hb_spec_l18Plain fun words_ => ts_spec_l18Plain _ (by simp [envL]) words_

def s1_spec_l18Pairs (sentences_ : Sl (Sl ByteArray)) (w9 : Int) : ((Sl Bigram) × ByteArray × Int) → Option (Sum ((Sl Bigram) × ByteArray × Int) (Sl Bigram)) := fun (w19, w22, w23) =>
  obind (getI (sentences_.getD []) w9) fun a31 =>
  bif decide (w23 < (((a31.getD []).length : Nat) : Int)) then
    obind (getI (sentences_.getD []) w9) fun a36 =>
    obind (getI (a36.getD []) w23) fun a40 =>
    obind (appO w19 ([(⟨w22, a40, 0⟩ : Bigram)] : List Bigram)) fun _ =>
    obind (getI (sentences_.getD []) w9) fun a54 =>
    obind (getI (a54.getD []) w23) fun a58 =>
    some (.inl ((appS w19 ([(⟨w22, a40, 0⟩ : Bigram)] : List Bigram)), a58, wr (w23 + 1)))
  else
    some (.inr w19)
def s0_spec_l18Pairs (sentences_ : Sl (Sl ByteArray)) : ((Sl Bigram) × Int) → Option (Sum ((Sl Bigram) × Int) (Sl Bigram)) := fun (w6, w9) =>
  bif decide (w9 < (((sentences_.getD []).length : Nat) : Int)) then
    obind (loopT (s1_spec_l18Pairs sentences_ w9) (w6, (⟨#[]⟩ : ByteArray), 0)) fun q27 =>
    some (.inl (q27, wr (w9 + 1)))
  else
    some (.inr w6)
def t_spec_l18Pairs (sentences_ : Sl (Sl ByteArray)) : Option (Sl Bigram) :=
  obind (loopT (s0_spec_l18Pairs sentences_) ((some ([] : List Bigram)), 0)) fun q13 =>
  some q13

theorem tl1_spec_l18Pairs (env : Nat → Contract) {B : Base}  (sentences_ : Sl (Sl ByteArray)) (x1 : AV) (w9 : Int)  {st : (Sl Bigram) × ByteArray × Int} {tm : TM} {h : Heap} (R : (fun (st : (Sl Bigram) × ByteArray × Int) tm h20 => match st with | (w19, w22, w23) => ∃ z18, tm = [Sl.enc sentences_, und, nilS, z18, iv w9, sv w22, iv w23, x1, iv w9, Sl.enc sentences_, iv (((sentences_.getD []).length : Nat) : Int), bv (decide (w9 < (((sentences_.getD []).length : Nat) : Int))), AV.top, AV.top, AV.top, AV.top, AV.top, AV.top, AV.top, AV.top, AV.top, AV.top, AV.top, AV.top, AV.top, AV.top, AV.top, AV.top, AV.top, AV.top, AV.top, AV.top, AV.top, AV.top, AV.top, AV.top, AV.top, AV.top, AV.top, AV.top, AV.top, AV.top, und] ∧ Hold B h20 [(z18, obS (w19 : Sl Bigram))]) st tm h) : Sim (loopP hm1_spec_l18Pairs xm1_spec_l18Pairs (lb1_spec_l18Pairs env) tm h) (loopT (s1_spec_l18Pairs sentences_ w9) st) (fun (q : Sl Bigram) (r : Res) => match q with | q27 => ∃ (q28 : ByteArray) (q29 : Int) (z26 : AV) (h24 : Heap), r = (.exit 2, [Sl.enc sentences_, und, nilS, z26, iv w9, sv q28, iv q29, x1, iv w9, Sl.enc sentences_, iv (((sentences_.getD []).length : Nat) : Int), bv (decide (w9 < (((sentences_.getD []).length : Nat) : Int))), AV.top, AV.top, AV.top, AV.top, AV.top, AV.top, AV.top, AV.top, AV.top, AV.top, AV.top, AV.top, AV.top, AV.top, AV.top, AV.top, AV.top, AV.top, AV.top, AV.top, AV.top, AV.top, AV.top, AV.top, AV.top, AV.top, AV.top, AV.top, AV.top, AV.top, und], h24) ∧ Hold B h24 [(z26, obS (q27 : Sl Bigram))]) := by
  refine loop_sim (Rel := fun (st : (Sl Bigram) × ByteArray × Int) tm h20 => match st with | (w19, w22, w23) => ∃ z18, tm = [Sl.enc sentences_, und, nilS, z18, iv w9, sv w22, iv w23, x1, iv w9, Sl.enc sentences_, iv (((sentences_.getD []).length : Nat) : Int), bv (decide (w9 < (((sentences_.getD []).length : Nat) : Int))), AV.top, AV.top, AV.top, AV.top, AV.top, AV.top, AV.top, AV.top, AV.top, AV.top, AV.top, AV.top, AV.top, AV.top, AV.top, AV.top, AV.top, AV.top, AV.top, AV.top, AV.top, AV.top, AV.top, AV.top, AV.top, AV.top, AV.top, AV.top, AV.top, AV.top, und] ∧ Hold B h20 [(z18, obS (w19 : Sl Bigram))]) (fun st tm h20 R => ?_) R
  obtain ⟨w19, w22, w23⟩ := st
  obtain ⟨z18, rfl, O21⟩ := R
  rw [e_lb1_spec_l18Pairs]
  unfold s1_spec_l18Pairs
  dsimp only
  refine sim_get (Tab.enc h20 sentences_) (fun m32 a31 hi33 hm34 => ?_)
  refine sim_let (v := Sl.enc a31) ((Tab.enc h20 sentences_).ld hm34 false 1 0) ?_
  refine sim_let (v := iv (((a31.getD []).length : Nat) : Int)) (Tab.enc h20 a31).len ?_
  refine sim_let (v := bv (decide (w23 < (((a31.getD []).length : Nat) : Int)))) (aBin_lss _ _) ?_
  refine sim_cond (fun c35 => ?_) (fun c35 => ?_)
  · refine sim_get (Tab.enc h20 sentences_) (fun m37 a36 hi38 hm39 => ?_)
    refine sim_let (v := Sl.enc a36) ((Tab.enc h20 sentences_).ld hm39 false 1 0) ?_
    refine sim_get (Tab.enc h20 a36) (fun m41 a40 hi42 hm43 => ?_)
    refine sim_let (v := sv a40) ((Tab.enc h20 a36).ld hm43 false 1 0) ?_
    refine sim_let (v := AV.agg [sv w22, sv a40, iv 0]) (by first | rfl | simp [aBuild, aFill, splice]) ?_
    refine sim_build (A := Bigram) O21 ([(⟨w22, a40, 0⟩ : Bigram)] : List Bigram) rfl (by first | rfl | simp [aFillRows, zrows]) rfl (fun x44 h45 O46 => ?_)
    replace O46 : Hold B h45 [(z18, obS (w19 : Sl Bigram)), (x44, obS ((some ([(⟨w22, a40, 0⟩ : Bigram)] : List Bigram)) : Sl Bigram))] := O46
    refine sim_append (A := Bigram) (s := w19) O46 0 ([(⟨w22, a40, 0⟩ : Bigram)] : List Bigram) rfl (O46.src (A := Bigram) (s := (some ([(⟨w22, a40, 0⟩ : Bigram)] : List Bigram))) 1 rfl) (by decide) (fun x49 h50 O51 => ?_)
    replace O51 : Hold B h50 [(x49, obS ((appS w19 ([(⟨w22, a40, 0⟩ : Bigram)] : List Bigram)) : Sl Bigram)), (x44, obS ((some ([(⟨w22, a40, 0⟩ : Bigram)] : List Bigram)) : Sl Bigram))] := O51
    have O53 : Hold B h50 [(x49, obS ((appS w19 ([(⟨w22, a40, 0⟩ : Bigram)] : List Bigram)) : Sl Bigram))] := O51.sel [0] (by decide) rfl
    refine sim_get (Tab.enc h50 sentences_) (fun m55 a54 hi56 hm57 => ?_)
    refine sim_let (v := Sl.enc a54) ((Tab.enc h50 sentences_).ld hm57 false 1 0) ?_
    refine sim_get (Tab.enc h50 a54) (fun m59 a58 hi60 hm61 => ?_)
    refine sim_let (v := sv a58) ((Tab.enc h50 a54).ld hm61 false 1 0) ?_
    refine sim_let (v := iv (wr (w23 + 1))) (aBin_add _ _) ?_
    exact sim_ret ⟨rfl, _, rfl, O53⟩
  · exact sim_ret ⟨nofun, _, _, _, _, rfl, O21⟩
theorem tl0_spec_l18Pairs (env : Nat → Contract) {B : Base}  (sentences_ : Sl (Sl ByteArray)) (x1 : AV)  {st : (Sl Bigram) × Int} {tm : TM} {h : Heap} (R : (fun (st : (Sl Bigram) × Int) tm h7 => match st with | (w6, w9) => ∃ z5, tm = [Sl.enc sentences_, und, nilS, z5, iv w9, AV.top, AV.top, x1, AV.top, AV.top, AV.top, AV.top, AV.top, AV.top, AV.top, AV.top, AV.top, AV.top, AV.top, AV.top, AV.top, AV.top, AV.top, AV.top, AV.top, AV.top, AV.top, AV.top, AV.top, AV.top, AV.top, AV.top, AV.top, AV.top, AV.top, AV.top, AV.top, AV.top, AV.top, AV.top, AV.top, AV.top, und] ∧ Hold B h7 [(z5, obS (w6 : Sl Bigram))]) st tm h) : Sim (loopP hm0_spec_l18Pairs xm0_spec_l18Pairs (lb0_spec_l18Pairs env) tm h) (loopT (s0_spec_l18Pairs sentences_) st) (fun (q : Sl Bigram) (r : Res) => match q with | q13 => ∃ (q14 : Int) (z12 : AV) (z15 : AV) (z16 : AV) (h10 : Heap), r = (.exit 0, [Sl.enc sentences_, und, nilS, z12, iv q14, z15, z16, x1, AV.top, AV.top, AV.top, AV.top, AV.top, AV.top, AV.top, AV.top, AV.top, AV.top, AV.top, AV.top, AV.top, AV.top, AV.top, AV.top, AV.top, AV.top, AV.top, AV.top, AV.top, AV.top, AV.top, AV.top, AV.top, AV.top, AV.top, AV.top, AV.top, AV.top, AV.top, AV.top, AV.top, AV.top, und], h10) ∧ Hold B h10 [(z12, obS (q13 : Sl Bigram))]) := by
  refine loop_sim (Rel := fun (st : (Sl Bigram) × Int) tm h7 => match st with | (w6, w9) => ∃ z5, tm = [Sl.enc sentences_, und, nilS, z5, iv w9, AV.top, AV.top, x1, AV.top, AV.top, AV.top, AV.top, AV.top, AV.top, AV.top, AV.top, AV.top, AV.top, AV.top, AV.top, AV.top, AV.top, AV.top, AV.top, AV.top, AV.top, AV.top, AV.top, AV.top, AV.top, AV.top, AV.top, AV.top, AV.top, AV.top, AV.top, AV.top, AV.top, AV.top, AV.top, AV.top, AV.top, und] ∧ Hold B h7 [(z5, obS (w6 : Sl Bigram))]) (fun st tm h7 R => ?_) R
  obtain ⟨w6, w9⟩ := st
  obtain ⟨z5, rfl, O8⟩ := R
  rw [e_lb0_spec_l18Pairs]
  unfold s0_spec_l18Pairs
  dsimp only
  refine sim_let (v := iv (((sentences_.getD []).length : Nat) : Int)) (Tab.enc h7 sentences_).len ?_
  refine sim_let (v := bv (decide (w9 < (((sentences_.getD []).length : Nat) : Int)))) (aBin_lss _ _) ?_
  refine sim_cond (fun c17 => ?_) (fun c17 => ?_)
  · refine sim_bind ((tl1_spec_l18Pairs env sentences_ x1 w9) ⟨_, rfl, O8⟩) (fun qq65 r hq => ?_)
    revert hq
    revert qq65
    intro q27 hq
    obtain ⟨q28, q29, z26, h24, rfl, O25⟩ := hq
    rw [e_lk1x2_spec_l18Pairs]
    refine sim_let (v := iv (wr (w9 + 1))) (aBin_add _ _) ?_
    exact sim_ret ⟨rfl, _, rfl, O25⟩
  · exact sim_ret ⟨nofun, _, _, _, _, _, rfl, O8⟩
theorem ts_spec_l18Pairs (env : Nat → Contract)  (sentences_ : Sl (Sl ByteArray)) : Sim (denFn Try.prog env n_spec_l18Pairs [Sl.enc sentences_] []) (t_spec_l18Pairs sentences_) fun c p => release p.2 depth p.1 = some ((fun c : (Sl Bigram) => rS c) c) := by
  have O := Hold.nil []
  generalize hB : (⟨[], []⟩ : Base) = B at O
  clear hB
  rw [e_spec_l18Pairs]
  unfold t_spec_l18Pairs
  refine sim_build (A := Bigram) O ([] : List Bigram) rfl (by first | rfl | simp [aFillRows, zrows]) rfl (fun x1 h2 O3 => ?_)
  replace O3 : Hold B h2 [(x1, obS ((some ([] : List Bigram)) : Sl Bigram))] := O3
  refine sim_bind ((tl0_spec_l18Pairs env sentences_ x1) ⟨_, rfl, O3⟩) (fun qq68 r hq => ?_)
  revert hq
  revert qq68
  intro q13 hq
  obtain ⟨q14, z12, z15, z16, h10, rfl, O11⟩ := hq
  rw [e_lk0x0_spec_l18Pairs]
  exact sim_ret (O11.rel (A := Bigram) (s := q13) 0 rfl)
theorem tt_spec_l18Pairs : PureOK Try.prog n_spec_l18Pairs (C1 (fun c : (Sl Bigram) => rS c) t_spec_l18Pairs) := pureC1 E0 mixed hb_spec_l18Pairs fun sentences_ => ts_spec_l18Pairs _  sentences_

def s0_spec_l18Times (list_ : Sl Bigram) (b_ : Bigram) : (Int × Int) → Option (Sum (Int × Int) Int) := fun (w7, w8) =>
  bif decide (w8 < (((list_.getD []).length : Nat) : Int)) then
    obind (getI (list_.getD []) w8) fun a14 =>
    bif decide (a14 = b_) then
      some (.inl (wr (w7 + 1), wr (w8 + 1)))
    else
      some (.inl (w7, wr (w8 + 1)))
  else
    some (.inr w7)
def t_spec_l18Times (list_ : Sl Bigram) (b_ : Bigram) : Option Int :=
  obind (loopT (s0_spec_l18Times list_ b_) (0, 0)) fun q11 =>
  some q11

theorem tl0_spec_l18Times (env : Nat → Contract) {B : Base}  (list_ : Sl Bigram) (b_ : Bigram) (o1 : Nat)  {st : Int × Int} {tm : TM} {h : Heap} (R : (fun (st : Int × Int) tm h5 => match st with | (w7, w8) => tm = [Sl.enc list_, AV.agg [sv b_.first, sv b_.second, iv b_.cost], und, AV.ptr o1 1 0 0, iv 0, iv w7, iv w8, AV.top, AV.top, AV.top, AV.top, AV.top, AV.top, AV.top, AV.top, AV.top, AV.top, AV.top, AV.top, AV.top, AV.top, und] ∧ Hold B h5 [(AV.ptr o1 1 0 0, .pt 3 [sv b_.first, sv b_.second, iv b_.cost])]) st tm h) : Sim (loopP hm0_spec_l18Times xm0_spec_l18Times (lb0_spec_l18Times env) tm h) (loopT (s0_spec_l18Times list_ b_) st) (fun (q : Int) (r : Res) => match q with | q11 => ∃ (q12 : Int) (h9 : Heap), r = (.exit 0, [Sl.enc list_, AV.agg [sv b_.first, sv b_.second, iv b_.cost], und, AV.ptr o1 1 0 0, iv 0, iv q11, iv q12, AV.top, AV.top, AV.top, AV.top, AV.top, AV.top, AV.top, AV.top, AV.top, AV.top, AV.top, AV.top, AV.top, AV.top, und], h9) ∧ Hold B h9 [(AV.ptr o1 1 0 0, .pt 3 [sv b_.first, sv b_.second, iv b_.cost])]) := by
  refine loop_sim (Rel := fun (st : Int × Int) tm h5 => match st with | (w7, w8) => tm = [Sl.enc list_, AV.agg [sv b_.first, sv b_.second, iv b_.cost], und, AV.ptr o1 1 0 0, iv 0, iv w7, iv w8, AV.top, AV.top, AV.top, AV.top, AV.top, AV.top, AV.top, AV.top, AV.top, AV.top, AV.top, AV.top, AV.top, AV.top, und] ∧ Hold B h5 [(AV.ptr o1 1 0 0, .pt 3 [sv b_.first, sv b_.second, iv b_.cost])]) (fun st tm h5 R => ?_) R
  obtain ⟨w7, w8⟩ := st
  obtain ⟨rfl, O6⟩ := R
  rw [e_lb0_spec_l18Times]
  unfold s0_spec_l18Times
  dsimp only
  refine sim_let (v := iv (((list_.getD []).length : Nat) : Int)) (Tab.enc h5 list_).len ?_
  refine sim_let (v := bv (decide (w8 < (((list_.getD []).length : Nat) : Int)))) (aBin_lss _ _) ?_
  refine sim_cond (fun c13 => ?_) (fun c13 => ?_)
  · refine sim_get (Tab.enc h5 list_) (fun m15 a14 hi16 hm17 => ?_)
    refine sim_let (v := AV.agg [sv a14.first, sv a14.second, iv a14.cost]) ((Tab.enc h5 list_).ld hm17 true 3 0) ?_
    refine sim_let (v := AV.agg [sv b_.first, sv b_.second, iv b_.cost]) (O6.ld 0 rfl true 3 0) ?_
    refine sim_let (v := bv (decide (a14 = b_))) (aCmp_Bigram a14 b_).1 ?_
    refine sim_cond (fun c18 => ?_) (fun c18 => ?_)
    · refine sim_let (v := iv (wr (w7 + 1))) (aBin_add _ _) ?_
      refine sim_let (v := iv (wr (w8 + 1))) (aBin_add _ _) ?_
      exact sim_ret ⟨rfl, rfl, O6⟩
    · refine sim_let (v := iv (wr (w8 + 1))) (aBin_add _ _) ?_
      exact sim_ret ⟨rfl, rfl, O6⟩
  · exact sim_ret ⟨nofun, _, _, rfl, O6⟩
theorem ts_spec_l18Times (env : Nat → Contract)  (list_ : Sl Bigram) (b_ : Bigram) : Sim (denFn Try.prog env n_spec_l18Times [Sl.enc list_, AV.agg [sv b_.first, sv b_.second, iv b_.cost]] []) (t_spec_l18Times list_ b_) fun c p => release p.2 depth p.1 = some ((fun c : Int => enc c) c) := by
  have O := Hold.nil []
  generalize hB : (⟨[], []⟩ : Base) = B at O
  clear hB
  rw [e_spec_l18Times]
  unfold t_spec_l18Times
  refine sim_box O (cs := [sv b_.first, sv b_.second, iv b_.cost]) (by first | rfl | simp) (fun o1 h2 O3 => ?_)
  replace O3 : Hold B h2 [(AV.ptr o1 1 0 0, .pt 3 [sv b_.first, sv b_.second, iv b_.cost])] := O3
  refine sim_bind ((tl0_spec_l18Times env list_ b_ o1) ⟨rfl, O3⟩) (fun qq23 r hq => ?_)
  revert hq
  revert qq23
  intro q11 hq
  obtain ⟨q12, h9, rfl, O10⟩ := hq
  rw [e_lk0x0_spec_l18Times]
  exact sim_ret (release_plain (by rfl) _)
theorem tt_spec_l18Times : PureOK Try.prog n_spec_l18Times (C2 (fun c : Int => enc c) t_spec_l18Times) := pureC2 E0 mixed hb_spec_l18Times fun list_ b_ => ts_spec_l18Times _  list_ b_

def t_spec_l18Before (a_ : Bigram) (b_ : Bigram) : Option Bool :=
  obind (bif ltS a_.first b_.first then some false else (some (decide (a_.first = b_.first)))) fun c2 =>
  obind (bif (!(ltS a_.first b_.first) && c2) then (some (ltS a_.second b_.second)) else some false) fun c13 =>
  obind (bif ltS a_.first b_.first then some false else (some (bif c2 then c13 else false))) fun c23 =>
  some (bif ltS a_.first b_.first then true else c23)
def tp_spec_l18Before (a_p : Pt Bigram) (b_p : Pt Bigram) : Option Bool := obind a_p.get fun a_ => obind b_p.get fun b_ => t_spec_l18Before a_ b_

theorem ts_spec_l18Before (env : Nat → Contract)  (a_ : Bigram) (b_ : Bigram) {a_p : Pt Bigram} (hp_a_ : a_p.get = some a_) {b_p : Pt Bigram} (hp_b_ : b_p.get = some b_) : Sim (denFn Try.prog env n_spec_l18Before [AV.fptr (Row.w Bigram) (a_p.tab.map Row.cells) a_p.i 0, AV.fptr (Row.w Bigram) (b_p.tab.map Row.cells) b_p.i 0] []) (t_spec_l18Before a_ b_) fun c p => release p.2 depth p.1 = some ((fun c : Bool => enc c) c) := by
  have O := Hold.nil []
  generalize hB : (⟨[], []⟩ : Base) = B at O
  clear hB
  rw [e_spec_l18Before]
  unfold t_spec_l18Before
  refine sim_let (v := AV.fptr (Row.w Bigram) (a_p.tab.map Row.cells) a_p.i 0) rfl ?_
  refine sim_let (v := AV.fptr (Row.w Bigram) (a_p.tab.map Row.cells) a_p.i 0) rfl ?_
  refine sim_let (v := sv a_.first) (ld_pt hp_a_ false 1 0) ?_
  refine sim_let (v := AV.fptr (Row.w Bigram) (b_p.tab.map Row.cells) b_p.i 0) rfl ?_
  refine sim_let (v := AV.fptr (Row.w Bigram) (b_p.tab.map Row.cells) b_p.i 0) rfl ?_
  refine sim_let (v := sv b_.first) (ld_pt hp_b_ false 1 0) ?_
  refine sim_let (v := bv (ltS a_.first b_.first)) (str_lss _ _) ?_
  refine sim_g10F (e := bv) (fun hb1 => ?_) (fun y3 y4 y5 y6 y7 y8 y9 y10 y11 c2 => ?_)
  · refine sim_o0 ?_
    refine sim_o1 ?_
    refine sim_let (v := AV.fptr (Row.w Bigram) (a_p.tab.map Row.cells) a_p.i 0) rfl ?_
    refine sim_o0 ?_
    refine sim_o1 ?_
    refine sim_let (v := AV.fptr (Row.w Bigram) (a_p.tab.map Row.cells) a_p.i 0) rfl ?_
    refine sim_o0 ?_
    refine sim_o1 ?_
    refine sim_let (v := sv a_.first) (ld_pt hp_a_ false 1 0) ?_
    refine sim_o0 ?_
    refine sim_o0 ?_
    refine sim_o1 ?_
    refine sim_let (v := AV.fptr (Row.w Bigram) (b_p.tab.map Row.cells) b_p.i 0) rfl ?_
    refine sim_o0 ?_
    refine sim_o1 ?_
    refine sim_let (v := AV.fptr (Row.w Bigram) (b_p.tab.map Row.cells) b_p.i 0) rfl ?_
    refine sim_o0 ?_
    refine sim_o1 ?_
    refine sim_let (v := sv b_.first) (ld_pt hp_b_ false 1 0) ?_
    refine sim_o0 ?_
    refine sim_o1 ?_
    refine sim_let (v := bv (decide (a_.first = b_.first))) (aCmp_eqS _ _) ?_
    refine sim_o0 ?_
    exact sim_ret rfl
  · simp only [gv_FT]
    refine sim_g9T (e := bv) (fun hb12 => ?_) (fun y14 y15 y16 y17 y18 y19 y20 y21 c13 => ?_)
    · refine sim_o0 ?_
      refine sim_o1 ?_
      refine sim_let (v := AV.fptr (Row.w Bigram) (a_p.tab.map Row.cells) a_p.i 0) rfl ?_
      refine sim_o0 ?_
      refine sim_o1 ?_
      refine sim_let (v := AV.fptr (Row.w Bigram) (a_p.tab.map Row.cells) a_p.i 1) rfl ?_
      refine sim_o0 ?_
      refine sim_o1 ?_
      refine sim_let (v := sv a_.second) (ld_pt hp_a_ false 1 1) ?_
      refine sim_o0 ?_
      refine sim_o0 ?_
      refine sim_o1 ?_
      refine sim_let (v := AV.fptr (Row.w Bigram) (b_p.tab.map Row.cells) b_p.i 0) rfl ?_
      refine sim_o0 ?_
      refine sim_o1 ?_
      refine sim_let (v := AV.fptr (Row.w Bigram) (b_p.tab.map Row.cells) b_p.i 1) rfl ?_
      refine sim_o0 ?_
      refine sim_o1 ?_
      refine sim_let (v := sv b_.second) (ld_pt hp_b_ false 1 1) ?_
      refine sim_o0 ?_
      refine sim_let (v := bv (ltS a_.second b_.second)) (str_lss _ _) ?_
      exact sim_ret rfl
    · refine sim_guardF (e := bv) (fun hb22 => ?_) (fun c23 => ?_)
      · simp only [hb22, cond_true, cond_false, Bool.not_true, Bool.not_false, Bool.true_and, Bool.and_true, Bool.false_and, Bool.not_not]
        refine sim_let (v := bv (bif c2 then c13 else false)) (pick_b _ _ _) ?_
        exact sim_ret rfl
      · refine sim_let (v := bv (bif ltS a_.first b_.first then true else c23)) (pick_b' _ _ _) ?_
        exact sim_ret (release_plain (by rfl) _)
theorem tt_spec_l18Before : PureOK Try.prog n_spec_l18Before (C2 (fun c : Bool => enc c) tp_spec_l18Before) := pureC2 E0 mixed hb_spec_l18Before fun a_p b_p => sim_getP fun a_ hp_a_ => sim_getP fun b_ hp_b_ => ts_spec_l18Before _  a_ b_ hp_a_ hp_b_

def s0_spec_l18Put (list_ : Sl Bigram) (b_ : Bigram) : ((Sl Bigram) × Bool × Int) → Option (Sum ((Sl Bigram) × Bool × Int) ((Sl Bigram) × Bool)) := fun (w10, w13, w14) =>
  bif decide (w14 < (((list_.getD []).length : Nat) : Int)) then
    obind (bif !w13 then (obind (getI (list_.getD []) w14) fun a34 => obind (t_spec_l18Before a34 b_) fun c38 => some (!c38)) else some false) fun c39 =>
    bif (bif !w13 then c39 else false) then
      obind (appO w10 ([b_] : List Bigram)) fun _ =>
      obind (getI (list_.getD []) w14) fun a51 =>
      obind (bif !decide (a51.first = b_.first) then some false else (obind (getI (list_.getD []) w14) fun a56 => some (!decide (a56.second = b_.second)))) fun c60 =>
      bif (bif !decide (a51.first = b_.first) then true else c60) then
        obind (getI (list_.getD []) w14) fun a69 =>
        obind (appO (appS w10 ([b_] : List Bigram)) ([a69] : List Bigram)) fun _ =>
        some (.inl ((appS (appS w10 ([b_] : List Bigram)) ([a69] : List Bigram)), true, wr (w14 + 1)))
      else
        some (.inl ((appS w10 ([b_] : List Bigram)), true, wr (w14 + 1)))
    else
      obind (getI (list_.getD []) w14) fun a85 =>
      obind (bif !decide (a85.first = b_.first) then some false else (obind (getI (list_.getD []) w14) fun a90 => some (!decide (a90.second = b_.second)))) fun c94 =>
      bif (bif !decide (a85.first = b_.first) then true else c94) then
        obind (getI (list_.getD []) w14) fun a103 =>
        obind (appO w10 ([a103] : List Bigram)) fun _ =>
        some (.inl ((appS w10 ([a103] : List Bigram)), w13, wr (w14 + 1)))
      else
        some (.inl (w10, w13, wr (w14 + 1)))
  else
    some (.inr (w10, w13))
def t_spec_l18Put (list_ : Sl Bigram) (b_ : Bigram) : Option (Sl Bigram) :=
  obind (loopT (s0_spec_l18Put list_ b_) ((some ([] : List Bigram)), false, 0)) fun (q18, q19) =>
  bif !q19 then
    obind (appO q18 ([b_] : List Bigram)) fun _ =>
    some (appS q18 ([b_] : List Bigram))
  else
    some q18

theorem tl0_spec_l18Put (env : Nat → Contract) {B : Base} (he_spec_l18Before : env n_spec_l18Before = .pure (C2 (fun c : Bool => enc c) tp_spec_l18Before)) (list_ : Sl Bigram) (b_ : Bigram) (o1 : Nat) (x5 : AV)  {st : (Sl Bigram) × Bool × Int} {tm : TM} {h : Heap} (R : (fun (st : (Sl Bigram) × Bool × Int) tm h11 => match st with | (w10, w13, w14) => ∃ z9, tm = ((Sl.enc list_) :: (AV.agg [sv b_.first, sv b_.second, iv b_.cost]) :: und :: (AV.ptr o1 1 0 0) :: nilS :: z9 :: (bv w13) :: (iv w14) :: x5 :: AV.top :: AV.top :: AV.top :: AV.top :: AV.top :: AV.top :: AV.top :: AV.top :: AV.top :: AV.top :: AV.top :: AV.top :: AV.top :: AV.top :: AV.top :: AV.top :: AV.top :: AV.top :: AV.top :: AV.top :: AV.top :: AV.top :: AV.top :: AV.top :: AV.top :: AV.top :: AV.top :: AV.top :: AV.top :: AV.top :: AV.top :: AV.top :: AV.top :: AV.top :: AV.top :: AV.top :: AV.top :: AV.top :: AV.top :: AV.top :: AV.top :: AV.top :: AV.top :: AV.top :: und :: und :: und :: und :: und :: und :: und :: []) ∧ Hold B h11 [(AV.ptr o1 1 0 0, .pt 3 [sv b_.first, sv b_.second, iv b_.cost]), (z9, obS (w10 : Sl Bigram))]) st tm h) : Sim (loopP hm0_spec_l18Put xm0_spec_l18Put (lb0_spec_l18Put env) tm h) (loopT (s0_spec_l18Put list_ b_) st) (fun (q : (Sl Bigram) × Bool) (r : Res) => match q with | (q18, q19) => ∃ (q20 : Int) (z17 : AV) (h15 : Heap), r = (.exit 0, ((Sl.enc list_) :: (AV.agg [sv b_.first, sv b_.second, iv b_.cost]) :: und :: (AV.ptr o1 1 0 0) :: nilS :: z17 :: (bv q19) :: (iv q20) :: x5 :: AV.top :: AV.top :: AV.top :: AV.top :: AV.top :: AV.top :: AV.top :: AV.top :: AV.top :: AV.top :: AV.top :: AV.top :: AV.top :: AV.top :: AV.top :: AV.top :: AV.top :: AV.top :: AV.top :: AV.top :: AV.top :: AV.top :: AV.top :: AV.top :: AV.top :: AV.top :: AV.top :: AV.top :: AV.top :: AV.top :: AV.top :: AV.top :: AV.top :: AV.top :: AV.top :: AV.top :: AV.top :: AV.top :: AV.top :: AV.top :: AV.top :: AV.top :: AV.top :: AV.top :: und :: und :: und :: und :: und :: und :: und :: []), h15) ∧ Hold B h15 [(AV.ptr o1 1 0 0, .pt 3 [sv b_.first, sv b_.second, iv b_.cost]), (z17, obS (q18 : Sl Bigram))]) := by
  refine loop_sim (Rel := fun (st : (Sl Bigram) × Bool × Int) tm h11 => match st with | (w10, w13, w14) => ∃ z9, tm = ((Sl.enc list_) :: (AV.agg [sv b_.first, sv b_.second, iv b_.cost]) :: und :: (AV.ptr o1 1 0 0) :: nilS :: z9 :: (bv w13) :: (iv w14) :: x5 :: AV.top :: AV.top :: AV.top :: AV.top :: AV.top :: AV.top :: AV.top :: AV.top :: AV.top :: AV.top :: AV.top :: AV.top :: AV.top :: AV.top :: AV.top :: AV.top :: AV.top :: AV.top :: AV.top :: AV.top :: AV.top :: AV.top :: AV.top :: AV.top :: AV.top :: AV.top :: AV.top :: AV.top :: AV.top :: AV.top :: AV.top :: AV.top :: AV.top :: AV.top :: AV.top :: AV.top :: AV.top :: AV.top :: AV.top :: AV.top :: AV.top :: AV.top :: AV.top :: AV.top :: und :: und :: und :: und :: und :: und :: und :: []) ∧ Hold B h11 [(AV.ptr o1 1 0 0, .pt 3 [sv b_.first, sv b_.second, iv b_.cost]), (z9, obS (w10 : Sl Bigram))]) (fun st tm h11 R => ?_) R
  obtain ⟨w10, w13, w14⟩ := st
  obtain ⟨z9, rfl, O12⟩ := R
  rw [e_lb0_spec_l18Put]
  unfold s0_spec_l18Put
  dsimp only
  refine sim_let (v := iv (((list_.getD []).length : Nat) : Int)) (Tab.enc h11 list_).len ?_
  refine sim_let (v := bv (decide (w14 < (((list_.getD []).length : Nat) : Int)))) (aBin_lss _ _) ?_
  refine sim_cond (fun c32 => ?_) (fun c32 => ?_)
  · refine sim_let (v := bv (!w13)) (aUn_not _) ?_
    refine sim_guardT (e := bv) (fun hb33 => ?_) (fun c39 => ?_)
    · refine sim_get (Tab.enc h11 list_) (fun m35 a34 hi36 hm37 => ?_)
      refine sim_eqO (y' := tp_spec_l18Before ⟨list_.getD [], m35⟩ ⟨[b_], 0⟩) (by simp only [tp_spec_l18Before, get_pt1, get_ptAt hm37, obind_sm]) ?_
      refine sim_call2 he_spec_l18Before (snapD_elpR _ list_ hm37) (O12.snapRn 0 rfl b_ rfl rfl) (fun c38 => ?_)
      refine sim_let2 (hand_plain (by rfl) _ _) ?_
      refine sim_let (v := bv (!c38)) (aUn_not _) ?_
      exact sim_ret rfl
    · refine sim_let (v := bv (bif !w13 then c39 else false)) (pick_b _ _ _) ?_
      refine sim_cond (fun c40 => ?_) (fun c40 => ?_)
      · refine sim_let (v := AV.agg [sv b_.first, sv b_.second, iv b_.cost]) (O12.ld 0 rfl true 3 0) ?_
        refine sim_build (A := Bigram) O12 ([b_] : List Bigram) rfl (by first | rfl | simp [aFillRows, zrows]) rfl (fun x41 h42 O43 => ?_)
        replace O43 : Hold B h42 [(AV.ptr o1 1 0 0, .pt 3 [sv b_.first, sv b_.second, iv b_.cost]), (z9, obS (w10 : Sl Bigram)), (x41, obS ((some ([b_] : List Bigram)) : Sl Bigram))] := O43
        refine sim_append (A := Bigram) (s := w10) O43 1 ([b_] : List Bigram) rfl (O43.src (A := Bigram) (s := (some ([b_] : List Bigram))) 2 rfl) (by decide) (fun x46 h47 O48 => ?_)
        replace O48 : Hold B h47 [(AV.ptr o1 1 0 0, .pt 3 [sv b_.first, sv b_.second, iv b_.cost]), (x46, obS ((appS w10 ([b_] : List Bigram)) : Sl Bigram)), (x41, obS ((some ([b_] : List Bigram)) : Sl Bigram))] := O48
        have O50 : Hold B h47 [(AV.ptr o1 1 0 0, .pt 3 [sv b_.first, sv b_.second, iv b_.cost]), (x46, obS ((appS w10 ([b_] : List Bigram)) : Sl Bigram))] := O48.sel [0, 1] (by decide) rfl
        refine sim_get (Tab.enc h47 list_) (fun m52 a51 hi53 hm54 => ?_)
        refine sim_let (v := elp (Sl.enc list_) m52 0) ((Tab.enc h47 list_).fld _ _ _) ?_
        refine sim_let (v := sv a51.first) ((Tab.enc h47 list_).ld hm54 false 1 0) ?_
        refine sim_let (v := AV.ptr o1 1 0 0) rfl ?_
        refine sim_let (v := sv b_.first) (O50.ld 0 rfl false 1 0) ?_
        refine sim_let (v := bv (!decide (a51.first = b_.first))) (aCmp_neS _ _) ?_
        refine sim_g8F (e := bv) (fun hb55 => ?_) (fun y61 y62 y63 y64 y65 y66 y67 c60 => ?_)
        · refine sim_o0 ?_
          refine sim_o0 ?_
          refine sim_o1 ?_
          refine sim_get (Tab.enc h47 list_) (fun m57 a56 hi58 hm59 => ?_)
          refine sim_o0 ?_
          refine sim_o1 ?_
          refine sim_let (v := elp (Sl.enc list_) m57 1) ((Tab.enc h47 list_).fld _ _ _) ?_
          refine sim_o0 ?_
          refine sim_o1 ?_
          refine sim_let (v := sv a56.second) ((Tab.enc h47 list_).ld hm59 false 1 1) ?_
          refine sim_o0 ?_
          refine sim_o1 ?_
          refine sim_let (v := AV.ptr o1 1 0 1) rfl ?_
          refine sim_o0 ?_
          refine sim_o1 ?_
          refine sim_let (v := sv b_.second) (O50.ld 0 rfl false 1 1) ?_
          refine sim_o0 ?_
          refine sim_let (v := bv (!decide (a56.second = b_.second))) (aCmp_neS _ _) ?_
          exact sim_ret rfl
        · refine sim_let (v := bv (bif !decide (a51.first = b_.first) then true else c60)) (pick_b' _ _ _) ?_
          refine sim_cond (fun c68 => ?_) (fun c68 => ?_)
          · refine sim_get (Tab.enc h47 list_) (fun m70 a69 hi71 hm72 => ?_)
            refine sim_let (v := AV.agg [sv a69.first, sv a69.second, iv a69.cost]) ((Tab.enc h47 list_).ld hm72 true 3 0) ?_
            refine sim_build (A := Bigram) O50 ([a69] : List Bigram) rfl (by first | rfl | simp [aFillRows, zrows]) rfl (fun x73 h74 O75 => ?_)
            replace O75 : Hold B h74 [(AV.ptr o1 1 0 0, .pt 3 [sv b_.first, sv b_.second, iv b_.cost]), (x46, obS ((appS w10 ([b_] : List Bigram)) : Sl Bigram)), (x73, obS ((some ([a69] : List Bigram)) : Sl Bigram))] := O75
            refine sim_append (A := Bigram) (s := (appS w10 ([b_] : List Bigram))) O75 1 ([a69] : List Bigram) rfl (O75.src (A := Bigram) (s := (some ([a69] : List Bigram))) 2 rfl) (by decide) (fun x78 h79 O80 => ?_)
            replace O80 : Hold B h79 [(AV.ptr o1 1 0 0, .pt 3 [sv b_.first, sv b_.second, iv b_.cost]), (x78, obS ((appS (appS w10 ([b_] : List Bigram)) ([a69] : List Bigram)) : Sl Bigram)), (x73, obS ((some ([a69] : List Bigram)) : Sl Bigram))] := O80
            have O82 : Hold B h79 [(AV.ptr o1 1 0 0, .pt 3 [sv b_.first, sv b_.second, iv b_.cost]), (x78, obS ((appS (appS w10 ([b_] : List Bigram)) ([a69] : List Bigram)) : Sl Bigram))] := O80.sel [0, 1] (by decide) rfl
            refine sim_let (v := iv (wr (w14 + 1))) (aBin_add _ _) ?_
            exact sim_ret ⟨rfl, _, rfl, O82⟩
          · refine sim_let (v := iv (wr (w14 + 1))) (aBin_add _ _) ?_
            exact sim_ret ⟨rfl, _, rfl, O50⟩
      · refine sim_get (Tab.enc h11 list_) (fun m86 a85 hi87 hm88 => ?_)
        refine sim_let (v := elp (Sl.enc list_) m86 0) ((Tab.enc h11 list_).fld _ _ _) ?_
        refine sim_let (v := sv a85.first) ((Tab.enc h11 list_).ld hm88 false 1 0) ?_
        refine sim_let (v := AV.ptr o1 1 0 0) rfl ?_
        refine sim_let (v := sv b_.first) (O12.ld 0 rfl false 1 0) ?_
        refine sim_let (v := bv (!decide (a85.first = b_.first))) (aCmp_neS _ _) ?_
        refine sim_g8F (e := bv) (fun hb89 => ?_) (fun y95 y96 y97 y98 y99 y100 y101 c94 => ?_)
        · refine sim_o0 ?_
          refine sim_o0 ?_
          refine sim_o1 ?_
          refine sim_get (Tab.enc h11 list_) (fun m91 a90 hi92 hm93 => ?_)
          refine sim_o0 ?_
          refine sim_o1 ?_
          refine sim_let (v := elp (Sl.enc list_) m91 1) ((Tab.enc h11 list_).fld _ _ _) ?_
          refine sim_o0 ?_
          refine sim_o1 ?_
          refine sim_let (v := sv a90.second) ((Tab.enc h11 list_).ld hm93 false 1 1) ?_
          refine sim_o0 ?_
          refine sim_o1 ?_
          refine sim_let (v := AV.ptr o1 1 0 1) rfl ?_
          refine sim_o0 ?_
          refine sim_o1 ?_
          refine sim_let (v := sv b_.second) (O12.ld 0 rfl false 1 1) ?_
          refine sim_o0 ?_
          refine sim_let (v := bv (!decide (a90.second = b_.second))) (aCmp_neS _ _) ?_
          exact sim_ret rfl
        · refine sim_let (v := bv (bif !decide (a85.first = b_.first) then true else c94)) (pick_b' _ _ _) ?_
          refine sim_cond (fun c102 => ?_) (fun c102 => ?_)
          · refine sim_get (Tab.enc h11 list_) (fun m104 a103 hi105 hm106 => ?_)
            refine sim_let (v := AV.agg [sv a103.first, sv a103.second, iv a103.cost]) ((Tab.enc h11 list_).ld hm106 true 3 0) ?_
            refine sim_build (A := Bigram) O12 ([a103] : List Bigram) rfl (by first | rfl | simp [aFillRows, zrows]) rfl (fun x107 h108 O109 => ?_)
            replace O109 : Hold B h108 [(AV.ptr o1 1 0 0, .pt 3 [sv b_.first, sv b_.second, iv b_.cost]), (z9, obS (w10 : Sl Bigram)), (x107, obS ((some ([a103] : List Bigram)) : Sl Bigram))] := O109
            refine sim_append (A := Bigram) (s := w10) O109 1 ([a103] : List Bigram) rfl (O109.src (A := Bigram) (s := (some ([a103] : List Bigram))) 2 rfl) (by decide) (fun x112 h113 O114 => ?_)
            replace O114 : Hold B h113 [(AV.ptr o1 1 0 0, .pt 3 [sv b_.first, sv b_.second, iv b_.cost]), (x112, obS ((appS w10 ([a103] : List Bigram)) : Sl Bigram)), (x107, obS ((some ([a103] : List Bigram)) : Sl Bigram))] := O114
            have O116 : Hold B h113 [(AV.ptr o1 1 0 0, .pt 3 [sv b_.first, sv b_.second, iv b_.cost]), (x112, obS ((appS w10 ([a103] : List Bigram)) : Sl Bigram))] := O114.sel [0, 1] (by decide) rfl
            refine sim_let (v := iv (wr (w14 + 1))) (aBin_add _ _) ?_
            exact sim_ret ⟨rfl, _, rfl, O116⟩
          · refine sim_let (v := iv (wr (w14 + 1))) (aBin_add _ _) ?_
            exact sim_ret ⟨rfl, _, rfl, O12⟩
  · exact sim_ret ⟨nofun, _, _, _, rfl, O12⟩
theorem ts_spec_l18Put (env : Nat → Contract) (he_spec_l18Before : env n_spec_l18Before = .pure (C2 (fun c : Bool => enc c) tp_spec_l18Before)) (list_ : Sl Bigram) (b_ : Bigram) : Sim (denFn Try.prog env n_spec_l18Put [Sl.enc list_, AV.agg [sv b_.first, sv b_.second, iv b_.cost]] []) (t_spec_l18Put list_ b_) fun c p => release p.2 depth p.1 = some ((fun c : (Sl Bigram) => rS c) c) := by
  have O := Hold.nil []
  generalize hB : (⟨[], []⟩ : Base) = B at O
  clear hB
  rw [e_spec_l18Put]
  unfold t_spec_l18Put
  refine sim_box O (cs := [sv b_.first, sv b_.second, iv b_.cost]) (by first | rfl | simp) (fun o1 h2 O3 => ?_)
  replace O3 : Hold B h2 [(AV.ptr o1 1 0 0, .pt 3 [sv b_.first, sv b_.second, iv b_.cost])] := O3
  refine sim_build (A := Bigram) O3 ([] : List Bigram) rfl (by first | rfl | simp [aFillRows, zrows]) rfl (fun x5 h6 O7 => ?_)
  replace O7 : Hold B h6 [(AV.ptr o1 1 0 0, .pt 3 [sv b_.first, sv b_.second, iv b_.cost]), (x5, obS ((some ([] : List Bigram)) : Sl Bigram))] := O7
  refine sim_bind ((tl0_spec_l18Put env he_spec_l18Before list_ b_ o1 x5) ⟨_, rfl, O7⟩) (fun qq121 r hq => ?_)
  obtain ⟨q18, q19⟩ := qq121
  obtain ⟨q20, z17, h15, rfl, O16⟩ := hq
  rw [e_lk0x0_spec_l18Put]
  refine sim_let (v := bv (!q19)) (aUn_not _) ?_
  refine sim_cond (fun c21 => ?_) (fun c21 => ?_)
  · refine sim_let (v := AV.agg [sv b_.first, sv b_.second, iv b_.cost]) (O16.ld 0 rfl true 3 0) ?_
    refine sim_build (A := Bigram) O16 ([b_] : List Bigram) rfl (by first | rfl | simp [aFillRows, zrows]) rfl (fun x22 h23 O24 => ?_)
    replace O24 : Hold B h23 [(AV.ptr o1 1 0 0, .pt 3 [sv b_.first, sv b_.second, iv b_.cost]), (z17, obS (q18 : Sl Bigram)), (x22, obS ((some ([b_] : List Bigram)) : Sl Bigram))] := O24
    refine sim_append (A := Bigram) (s := q18) O24 1 ([b_] : List Bigram) rfl (O24.src (A := Bigram) (s := (some ([b_] : List Bigram))) 2 rfl) (by decide) (fun x27 h28 O29 => ?_)
    replace O29 : Hold B h28 [(AV.ptr o1 1 0 0, .pt 3 [sv b_.first, sv b_.second, iv b_.cost]), (x27, obS ((appS q18 ([b_] : List Bigram)) : Sl Bigram)), (x22, obS ((some ([b_] : List Bigram)) : Sl Bigram))] := O29
    have O31 : Hold B h28 [(AV.ptr o1 1 0 0, .pt 3 [sv b_.first, sv b_.second, iv b_.cost]), (x27, obS ((appS q18 ([b_] : List Bigram)) : Sl Bigram))] := O29.sel [0, 1] (by decide) rfl
    exact sim_ret (O31.rel (A := Bigram) (s := (appS q18 ([b_] : List Bigram))) 1 rfl)
  · exact sim_ret (O16.rel (A := Bigram) (s := q18) 1 rfl)
theorem tt_spec_l18Put : PureOK Try.prog n_spec_l18Put (C2 (fun c : (Sl Bigram) => rS c) t_spec_l18Put) := pureC2 (Econs tt_spec_l18Before E0) mixed hb_spec_l18Put fun list_ b_ => ts_spec_l18Put _ (by simp [envL]) list_ b_

def s2_spec_CountModel (scale_ : Int) (c19 : (Sl Bigram)) (q30 : Int) : (Int × (Sl Bigram) × Int) → Option (Sum (Int × (Sl Bigram) × Int) (Int × (Sl Bigram))) := fun (w40, w42, w45) =>
  bif decide (w45 < (((c19.getD []).length : Nat) : Int)) then
    obind (getI (c19.getD []) w45) fun a60 =>
    obind (getI (c19.getD []) w45) fun a70 =>
    obind (t_spec_l18Times c19 a70) fun c74 =>
    obind (quoI (wr (scale_ * (wr (q30 - c74)))) q30) fun q75 =>
    obind (t_spec_l18Put w42 (⟨a60.first, a60.second, q75⟩ : Bigram)) fun c78 =>
    some (.inl (w40, c78, wr (w45 + 1)))
  else
    some (.inr (w40, w42))
def s1_spec_CountModel (c19 : (Sl Bigram)) : (Int × Int) → Option (Sum (Int × Int) Int) := fun (w26, w27) =>
  bif decide (w27 < (((c19.getD []).length : Nat) : Int)) then
    obind (getI (c19.getD []) w27) fun a90 =>
    obind (t_spec_l18Times c19 a90) fun c94 =>
    obind (some ((fun a b : Int => max a b) w26 c94)) fun c95 =>
    some (.inl (c95, wr (w27 + 1)))
  else
    some (.inr w26)
def s0_spec_CountModel (sentences_ : Sl (Sl ByteArray)) : Int → Option (Sum Int (Sum Unit Int)) := fun w7 =>
  bif decide (w7 < (((sentences_.getD []).length : Nat) : Int)) then
    obind (getI (sentences_.getD []) w7) fun a105 =>
    obind (t_spec_l18Plain a105) fun c109 =>
    bif !c109 then
      some (.inr (.inr 7))
    else
      some (.inl (wr (w7 + 1)))
  else
    some (.inr (.inl ()))
def t_spec_CountModel (sentences_ : Sl (Sl ByteArray)) (scale_ : Int) (other_ : Int) : Option (Model × Int) :=
  obind (loopT (s0_spec_CountModel sentences_) 0) fun qq117 => match qq117 with
  | (.inl _) =>
      obind (some (within scale_ 0 1000000)) fun c12 =>
      obind (bif !c12 then some false else (obind (some (within other_ 0 1000000)) fun c14 => some (!c14))) fun c15 =>
      bif (bif !c12 then true else c15) then
        some ((⟨0, (none : Sl Bigram)⟩ : Model), 2)
      else
        obind (t_spec_l18Pairs sentences_) fun c19 =>
        obind (loopT (s1_spec_CountModel c19) (0, 0)) fun q30 =>
        obind (loopT (s2_spec_CountModel scale_ c19 q30) (other_, (none : Sl Bigram), 0)) fun (q48, q50) =>
        bif decide (60 < (((q50.getD []).length : Nat) : Int)) then
          some ((⟨0, (none : Sl Bigram)⟩ : Model), 5)
        else
          some ((⟨q48, q50⟩ : Model), 0)
  | (.inr q102) =>
      some ((⟨0, (none : Sl Bigram)⟩ : Model), q102)

theorem tl2_spec_CountModel (env : Nat → Contract) {B : Base} (he_spec_l00In : env n_spec_l00In = .pure (T3 within)) (he_spec_l00Max : env n_spec_l00Max = .pure (T2 (fun a b : Int => max a b))) (he_spec_l18Pairs : env n_spec_l18Pairs = .pure (C1 (fun c : (Sl Bigram) => rS c) t_spec_l18Pairs)) (he_spec_l18Plain : env n_spec_l18Plain = .pure (C1 (fun c : Bool => enc c) t_spec_l18Plain)) (he_spec_l18Put : env n_spec_l18Put = .pure (C2 (fun c : (Sl Bigram) => rS c) t_spec_l18Put)) (he_spec_l18Times : env n_spec_l18Times = .pure (C2 (fun c : Int => enc c) t_spec_l18Times)) (sentences_ : Sl (Sl ByteArray)) (scale_ : Int) (other_ : Int) (o1 : Nat) (z10 : AV) (q11 : Int) (c12 : Bool) (c15 : Bool) (c19 : (Sl Bigram)) (x21 : AV) (q30 : Int) (q31 : Int) (o32 : Nat)  {st : Int × (Sl Bigram) × Int} {tm : TM} {h : Heap} (R : (fun (st : Int × (Sl Bigram) × Int) tm h43 => match st with | (w40, w42, w45) => ∃ z41, tm = ((Sl.enc sentences_) :: (iv scale_) :: (iv other_) :: und :: und :: und :: (AV.ptr o1 1 0 0) :: z10 :: (iv q11) :: x21 :: (iv q30) :: (iv q31) :: (AV.ptr o32 1 0 0) :: (iv w45) :: AV.top :: AV.top :: AV.top :: AV.top :: AV.top :: AV.top :: AV.top :: AV.top :: AV.top :: AV.top :: AV.top :: AV.top :: AV.top :: AV.top :: (iv scale_) :: (bv c12) :: (bv (!c12)) :: (bv (!c12)) :: AV.top :: AV.top :: (cond (!c12) und (bv c15)) :: (bv (bif !c12 then true else c15)) :: und :: (Sl.enc sentences_) :: x21 :: AV.top :: AV.top :: AV.top :: AV.top :: AV.top :: AV.top :: AV.top :: AV.top :: AV.top :: AV.top :: AV.top :: AV.top :: AV.top :: AV.top :: (iv other_) :: (AV.agg [iv other_, nilS]) :: AV.top :: AV.top :: AV.top :: AV.top :: AV.top :: AV.top :: AV.top :: AV.top :: AV.top :: AV.top :: AV.top :: AV.top :: AV.top :: AV.top :: AV.top :: AV.top :: AV.top :: AV.top :: AV.top :: AV.top :: AV.top :: AV.top :: AV.top :: AV.top :: AV.top :: AV.top :: AV.top :: AV.top :: und :: und :: und :: und :: und :: und :: []) ∧ Hold B h43 [(AV.ptr o1 1 0 0, .pt 2 [iv 0, nilS]), (x21, obS (c19 : Sl Bigram)), (AV.ptr o32 1 0 0, .pt 2 [iv w40, z41]), (z41, obS (w42 : Sl Bigram))]) st tm h) : Sim (loopP hm2_spec_CountModel xm2_spec_CountModel (lb2_spec_CountModel env) tm h) (loopT (s2_spec_CountModel scale_ c19 q30) st) (fun (q : Int × (Sl Bigram)) (r : Res) => match q with | (q48, q50) => ∃ (q51 : Int) (z49 : AV) (z52 : AV) (h46 : Heap), r = (.exit 4, ((Sl.enc sentences_) :: (iv scale_) :: (iv other_) :: und :: und :: und :: (AV.ptr o1 1 0 0) :: z10 :: (iv q11) :: x21 :: (iv q30) :: (iv q31) :: (AV.ptr o32 1 0 0) :: (iv q51) :: z52 :: AV.top :: AV.top :: AV.top :: AV.top :: AV.top :: AV.top :: AV.top :: AV.top :: AV.top :: AV.top :: AV.top :: AV.top :: AV.top :: (iv scale_) :: (bv c12) :: (bv (!c12)) :: (bv (!c12)) :: AV.top :: AV.top :: (cond (!c12) und (bv c15)) :: (bv (bif !c12 then true else c15)) :: und :: (Sl.enc sentences_) :: x21 :: AV.top :: AV.top :: AV.top :: AV.top :: AV.top :: AV.top :: AV.top :: AV.top :: AV.top :: AV.top :: AV.top :: AV.top :: AV.top :: AV.top :: (iv other_) :: (AV.agg [iv other_, nilS]) :: AV.top :: AV.top :: AV.top :: AV.top :: AV.top :: AV.top :: AV.top :: AV.top :: AV.top :: AV.top :: AV.top :: AV.top :: AV.top :: AV.top :: AV.top :: AV.top :: AV.top :: AV.top :: AV.top :: AV.top :: AV.top :: AV.top :: AV.top :: AV.top :: AV.top :: AV.top :: AV.top :: AV.top :: und :: und :: und :: und :: und :: und :: []), h46) ∧ Hold B h46 [(AV.ptr o1 1 0 0, .pt 2 [iv 0, nilS]), (x21, obS (c19 : Sl Bigram)), (AV.ptr o32 1 0 0, .pt 2 [iv q48, z49]), (z49, obS (q50 : Sl Bigram))]) := by
  refine loop_sim (Rel := fun (st : Int × (Sl Bigram) × Int) tm h43 => match st with | (w40, w42, w45) => ∃ z41, tm = ((Sl.enc sentences_) :: (iv scale_) :: (iv other_) :: und :: und :: und :: (AV.ptr o1 1 0 0) :: z10 :: (iv q11) :: x21 :: (iv q30) :: (iv q31) :: (AV.ptr o32 1 0 0) :: (iv w45) :: AV.top :: AV.top :: AV.top :: AV.top :: AV.top :: AV.top :: AV.top :: AV.top :: AV.top :: AV.top :: AV.top :: AV.top :: AV.top :: AV.top :: (iv scale_) :: (bv c12) :: (bv (!c12)) :: (bv (!c12)) :: AV.top :: AV.top :: (cond (!c12) und (bv c15)) :: (bv (bif !c12 then true else c15)) :: und :: (Sl.enc sentences_) :: x21 :: AV.top :: AV.top :: AV.top :: AV.top :: AV.top :: AV.top :: AV.top :: AV.top :: AV.top :: AV.top :: AV.top :: AV.top :: AV.top :: AV.top :: (iv other_) :: (AV.agg [iv other_, nilS]) :: AV.top :: AV.top :: AV.top :: AV.top :: AV.top :: AV.top :: AV.top :: AV.top :: AV.top :: AV.top :: AV.top :: AV.top :: AV.top :: AV.top :: AV.top :: AV.top :: AV.top :: AV.top :: AV.top :: AV.top :: AV.top :: AV.top :: AV.top :: AV.top :: AV.top :: AV.top :: AV.top :: AV.top :: und :: und :: und :: und :: und :: und :: []) ∧ Hold B h43 [(AV.ptr o1 1 0 0, .pt 2 [iv 0, nilS]), (x21, obS (c19 : Sl Bigram)), (AV.ptr o32 1 0 0, .pt 2 [iv w40, z41]), (z41, obS (w42 : Sl Bigram))]) (fun st tm h43 R => ?_) R
  obtain ⟨w40, w42, w45⟩ := st
  obtain ⟨z41, rfl, O44⟩ := R
  rw [e_lb2_spec_CountModel]
  unfold s2_spec_CountModel
  dsimp only
  refine sim_let (v := iv (((c19.getD []).length : Nat) : Int)) (O44.tab (A := Bigram) (s := c19) 1 rfl).len ?_
  refine sim_let (v := bv (decide (w45 < (((c19.getD []).length : Nat) : Int)))) (aBin_lss _ _) ?_
  refine sim_cond (fun c59 => ?_) (fun c59 => ?_)
  · refine sim_get (O44.tab (A := Bigram) (s := c19) 1 rfl) (fun m61 a60 hi62 hm63 => ?_)
    refine sim_let (v := AV.agg [sv a60.first, sv a60.second, iv a60.cost]) ((O44.tab (A := Bigram) (s := c19) 1 rfl).ld hm63 true 3 0) ?_
    refine sim_box O44 (cs := [sv (⟨#[]⟩ : ByteArray), sv (⟨#[]⟩ : ByteArray), iv 0]) (by first | rfl | simp) (fun o64 h65 O66 => ?_)
    replace O66 : Hold B h65 [(AV.ptr o1 1 0 0, .pt 2 [iv 0, nilS]), (x21, obS (c19 : Sl Bigram)), (AV.ptr o32 1 0 0, .pt 2 [iv w40, z41]), (z41, obS (w42 : Sl Bigram)), (AV.ptr o64 1 0 0, .pt 3 [sv (⟨#[]⟩ : ByteArray), sv (⟨#[]⟩ : ByteArray), iv 0])] := O66
    refine sim_store O66 4 (cs' := [sv a60.first, sv a60.second, iv a60.cost]) rfl (by first | rfl | simp) (by simp) (by first | rfl | simp) (by first | rfl | simp [splice]) (fun h68 O69 => ?_)
    replace O69 : Hold B h68 [(AV.ptr o1 1 0 0, .pt 2 [iv 0, nilS]), (x21, obS (c19 : Sl Bigram)), (AV.ptr o32 1 0 0, .pt 2 [iv w40, z41]), (z41, obS (w42 : Sl Bigram)), (AV.ptr o64 1 0 0, .pt 3 [sv a60.first, sv a60.second, iv a60.cost])] := O69
    refine sim_get (O69.tab (A := Bigram) (s := c19) 1 rfl) (fun m71 a70 hi72 hm73 => ?_)
    refine sim_let (v := AV.agg [sv a70.first, sv a70.second, iv a70.cost]) ((O69.tab (A := Bigram) (s := c19) 1 rfl).ld hm73 true 3 0) ?_
    refine sim_call2 he_spec_l18Times ((O69.tab (A := Bigram) (s := c19) 1 rfl).snap) (snapD_nr _ a70 rfl) (fun c74 => ?_)
    refine sim_let2 (hand_plain (by rfl) _ _) ?_
    refine sim_let (v := iv (wr (q30 - c74))) (aBin_sub _ _) ?_
    refine sim_let (v := iv (wr (scale_ * (wr (q30 - c74))))) (aBin_mul _ _) ?_
    refine sim_quo (fun q75 => ?_)
    refine sim_let (v := AV.ptr o64 1 0 2) rfl ?_
    refine sim_store O69 4 (cs' := [sv a60.first, sv a60.second, iv q75]) rfl (by first | rfl | simp) (by simp) (by first | rfl | simp) (by first | rfl | simp [splice]) (fun h76 O77 => ?_)
    replace O77 : Hold B h76 [(AV.ptr o1 1 0 0, .pt 2 [iv 0, nilS]), (x21, obS (c19 : Sl Bigram)), (AV.ptr o32 1 0 0, .pt 2 [iv w40, z41]), (z41, obS (w42 : Sl Bigram)), (AV.ptr o64 1 0 0, .pt 3 [sv a60.first, sv a60.second, iv q75])] := O77
    refine sim_let (v := AV.ptr o32 1 0 1) rfl ?_
    refine sim_let (v := z41) (O77.ld 2 rfl false 1 1) ?_
    refine sim_let (v := AV.agg [sv a60.first, sv a60.second, iv q75]) (O77.ld 4 rfl true 3 0) ?_
    refine sim_call2 he_spec_l18Put ((O77.tab (A := Bigram) (s := w42) 3 rfl).snap) (snapD_nr _ (⟨a60.first, a60.second, q75⟩ : Bigram) rfl) (fun c78 => ?_)
    refine sim_hand (A := Bigram) O77 (fun x80 h81 O82 => ?_)
    replace O82 : Hold B h81 [(AV.ptr o1 1 0 0, .pt 2 [iv 0, nilS]), (x21, obS (c19 : Sl Bigram)), (AV.ptr o32 1 0 0, .pt 2 [iv w40, z41]), (z41, obS (w42 : Sl Bigram)), (AV.ptr o64 1 0 0, .pt 3 [sv a60.first, sv a60.second, iv q75]), (x80, obS (c78 : Sl Bigram))] := O82
    refine sim_let (v := AV.ptr o32 1 0 1) rfl ?_
    refine sim_store O82 2 (cs' := [iv w40, x80]) rfl (by first | rfl | simp [(O82.one (A := Bigram) (s := c78) 5 rfl).1, (O82.one (A := Bigram) (s := c78) 5 rfl).2]) (by simp) (by first | rfl | simp [(O82.one (A := Bigram) (s := c78) 5 rfl).1, (O82.one (A := Bigram) (s := c78) 5 rfl).2]) (by first | rfl | simp [splice, (O82.one (A := Bigram) (s := c78) 5 rfl).1, (O82.one (A := Bigram) (s := c78) 5 rfl).2]) (fun h83 O84 => ?_)
    replace O84 : Hold B h83 [(AV.ptr o1 1 0 0, .pt 2 [iv 0, nilS]), (x21, obS (c19 : Sl Bigram)), (AV.ptr o32 1 0 0, .pt 2 [iv w40, x80]), (z41, obS (w42 : Sl Bigram)), (AV.ptr o64 1 0 0, .pt 3 [sv a60.first, sv a60.second, iv q75]), (x80, obS (c78 : Sl Bigram))] := O84
    refine sim_let (v := iv (wr (w45 + 1))) (aBin_add _ _) ?_
    have O85 : Hold B h83 [(AV.ptr o1 1 0 0, .pt 2 [iv 0, nilS]), (x21, obS (c19 : Sl Bigram)), (AV.ptr o32 1 0 0, .pt 2 [iv w40, x80]), (x80, obS (c78 : Sl Bigram))] := O84.sel [0, 1, 2, 5] (by decide) rfl
    exact sim_ret ⟨rfl, _, rfl, O85⟩
  · exact sim_ret ⟨nofun, _, _, _, _, rfl, O44⟩
theorem tl1_spec_CountModel (env : Nat → Contract) {B : Base} (he_spec_l00In : env n_spec_l00In = .pure (T3 within)) (he_spec_l00Max : env n_spec_l00Max = .pure (T2 (fun a b : Int => max a b))) (he_spec_l18Pairs : env n_spec_l18Pairs = .pure (C1 (fun c : (Sl Bigram) => rS c) t_spec_l18Pairs)) (he_spec_l18Plain : env n_spec_l18Plain = .pure (C1 (fun c : Bool => enc c) t_spec_l18Plain)) (he_spec_l18Put : env n_spec_l18Put = .pure (C2 (fun c : (Sl Bigram) => rS c) t_spec_l18Put)) (he_spec_l18Times : env n_spec_l18Times = .pure (C2 (fun c : Int => enc c) t_spec_l18Times)) (sentences_ : Sl (Sl ByteArray)) (scale_ : Int) (other_ : Int) (o1 : Nat) (z10 : AV) (q11 : Int) (c12 : Bool) (c15 : Bool) (c19 : (Sl Bigram)) (x21 : AV)  {st : Int × Int} {tm : TM} {h : Heap} (R : (fun (st : Int × Int) tm h24 => match st with | (w26, w27) => tm = ((Sl.enc sentences_) :: (iv scale_) :: (iv other_) :: und :: und :: und :: (AV.ptr o1 1 0 0) :: z10 :: (iv q11) :: x21 :: (iv w26) :: (iv w27) :: und :: und :: und :: AV.top :: AV.top :: AV.top :: AV.top :: AV.top :: AV.top :: AV.top :: AV.top :: AV.top :: AV.top :: AV.top :: AV.top :: AV.top :: (iv scale_) :: (bv c12) :: (bv (!c12)) :: (bv (!c12)) :: AV.top :: AV.top :: (cond (!c12) und (bv c15)) :: (bv (bif !c12 then true else c15)) :: und :: (Sl.enc sentences_) :: x21 :: AV.top :: AV.top :: AV.top :: AV.top :: AV.top :: AV.top :: AV.top :: AV.top :: AV.top :: AV.top :: AV.top :: AV.top :: AV.top :: AV.top :: und :: und :: und :: und :: und :: und :: und :: und :: und :: und :: und :: und :: und :: und :: und :: und :: und :: und :: und :: und :: und :: und :: und :: und :: und :: und :: und :: und :: und :: und :: und :: und :: und :: und :: und :: und :: []) ∧ Hold B h24 [(AV.ptr o1 1 0 0, .pt 2 [iv 0, nilS]), (x21, obS (c19 : Sl Bigram))]) st tm h) : Sim (loopP hm1_spec_CountModel xm1_spec_CountModel (lb1_spec_CountModel env) tm h) (loopT (s1_spec_CountModel c19) st) (fun (q : Int) (r : Res) => match q with | q30 => ∃ (q31 : Int) (h28 : Heap), r = (.exit 2, ((Sl.enc sentences_) :: (iv scale_) :: (iv other_) :: und :: und :: und :: (AV.ptr o1 1 0 0) :: z10 :: (iv q11) :: x21 :: (iv q30) :: (iv q31) :: und :: und :: und :: AV.top :: AV.top :: AV.top :: AV.top :: AV.top :: AV.top :: AV.top :: AV.top :: AV.top :: AV.top :: AV.top :: AV.top :: AV.top :: (iv scale_) :: (bv c12) :: (bv (!c12)) :: (bv (!c12)) :: AV.top :: AV.top :: (cond (!c12) und (bv c15)) :: (bv (bif !c12 then true else c15)) :: und :: (Sl.enc sentences_) :: x21 :: AV.top :: AV.top :: AV.top :: AV.top :: AV.top :: AV.top :: AV.top :: AV.top :: AV.top :: AV.top :: AV.top :: AV.top :: AV.top :: AV.top :: und :: und :: und :: und :: und :: und :: und :: und :: und :: und :: und :: und :: und :: und :: und :: und :: und :: und :: und :: und :: und :: und :: und :: und :: und :: und :: und :: und :: und :: und :: und :: und :: und :: und :: und :: und :: []), h28) ∧ Hold B h28 [(AV.ptr o1 1 0 0, .pt 2 [iv 0, nilS]), (x21, obS (c19 : Sl Bigram))]) := by
  refine loop_sim (Rel := fun (st : Int × Int) tm h24 => match st with | (w26, w27) => tm = ((Sl.enc sentences_) :: (iv scale_) :: (iv other_) :: und :: und :: und :: (AV.ptr o1 1 0 0) :: z10 :: (iv q11) :: x21 :: (iv w26) :: (iv w27) :: und :: und :: und :: AV.top :: AV.top :: AV.top :: AV.top :: AV.top :: AV.top :: AV.top :: AV.top :: AV.top :: AV.top :: AV.top :: AV.top :: AV.top :: (iv scale_) :: (bv c12) :: (bv (!c12)) :: (bv (!c12)) :: AV.top :: AV.top :: (cond (!c12) und (bv c15)) :: (bv (bif !c12 then true else c15)) :: und :: (Sl.enc sentences_) :: x21 :: AV.top :: AV.top :: AV.top :: AV.top :: AV.top :: AV.top :: AV.top :: AV.top :: AV.top :: AV.top :: AV.top :: AV.top :: AV.top :: AV.top :: und :: und :: und :: und :: und :: und :: und :: und :: und :: und :: und :: und :: und :: und :: und :: und :: und :: und :: und :: und :: und :: und :: und :: und :: und :: und :: und :: und :: und :: und :: und :: und :: und :: und :: und :: und :: []) ∧ Hold B h24 [(AV.ptr o1 1 0 0, .pt 2 [iv 0, nilS]), (x21, obS (c19 : Sl Bigram))]) (fun st tm h24 R => ?_) R
  obtain ⟨w26, w27⟩ := st
  obtain ⟨rfl, O25⟩ := R
  rw [e_lb1_spec_CountModel]
  unfold s1_spec_CountModel
  dsimp only
  refine sim_let (v := iv (((c19.getD []).length : Nat) : Int)) (O25.tab (A := Bigram) (s := c19) 1 rfl).len ?_
  refine sim_let (v := bv (decide (w27 < (((c19.getD []).length : Nat) : Int)))) (aBin_lss _ _) ?_
  refine sim_cond (fun c89 => ?_) (fun c89 => ?_)
  · refine sim_get (O25.tab (A := Bigram) (s := c19) 1 rfl) (fun m91 a90 hi92 hm93 => ?_)
    refine sim_let (v := AV.agg [sv a90.first, sv a90.second, iv a90.cost]) ((O25.tab (A := Bigram) (s := c19) 1 rfl).ld hm93 true 3 0) ?_
    refine sim_call2 he_spec_l18Times ((O25.tab (A := Bigram) (s := c19) 1 rfl).snap) (snapD_nr _ a90 rfl) (fun c94 => ?_)
    refine sim_let2 (hand_plain (by rfl) _ _) ?_
    refine sim_callV2 (t := (fun a b : Int => max a b)) he_spec_l00Max (snapD_int _ _) (snapD_int _ _) (fun c95 => ?_)
    refine sim_let (v := iv (wr (w27 + 1))) (aBin_add _ _) ?_
    exact sim_ret ⟨rfl, rfl, O25⟩
  · exact sim_ret ⟨nofun, _, _, rfl, O25⟩
theorem tl0_spec_CountModel (env : Nat → Contract) {B : Base} (he_spec_l00In : env n_spec_l00In = .pure (T3 within)) (he_spec_l00Max : env n_spec_l00Max = .pure (T2 (fun a b : Int => max a b))) (he_spec_l18Pairs : env n_spec_l18Pairs = .pure (C1 (fun c : (Sl Bigram) => rS c) t_spec_l18Pairs)) (he_spec_l18Plain : env n_spec_l18Plain = .pure (C1 (fun c : Bool => enc c) t_spec_l18Plain)) (he_spec_l18Put : env n_spec_l18Put = .pure (C2 (fun c : (Sl Bigram) => rS c) t_spec_l18Put)) (he_spec_l18Times : env n_spec_l18Times = .pure (C2 (fun c : Int => enc c) t_spec_l18Times)) (sentences_ : Sl (Sl ByteArray)) (scale_ : Int) (other_ : Int) (o1 : Nat)  {st : Int} {tm : TM} {h : Heap} (R : (fun (st : Int) tm h5 => match st with | w7 => tm = ((Sl.enc sentences_) :: (iv scale_) :: (iv other_) :: und :: und :: und :: (AV.ptr o1 1 0 0) :: AV.top :: (iv w7) :: und :: und :: und :: und :: und :: und :: AV.top :: AV.top :: AV.top :: AV.top :: AV.top :: AV.top :: AV.top :: AV.top :: AV.top :: AV.top :: AV.top :: AV.top :: AV.top :: und :: und :: und :: und :: und :: und :: und :: und :: und :: und :: und :: und :: und :: und :: und :: und :: und :: und :: und :: und :: und :: und :: und :: und :: und :: und :: und :: und :: und :: und :: und :: und :: und :: und :: und :: und :: und :: und :: und :: und :: und :: und :: und :: und :: und :: und :: und :: und :: und :: und :: und :: und :: und :: und :: und :: und :: und :: und :: und :: und :: und :: []) ∧ Hold B h5 [(AV.ptr o1 1 0 0, .pt 2 [iv 0, nilS])]) st tm h) : Sim (loopP hm0_spec_CountModel xm0_spec_CountModel (lb0_spec_CountModel env) tm h) (loopT (s0_spec_CountModel sentences_) st) (fun (q : Sum Unit Int) (r : Res) => match q with | .inl _ => ∃ (q11 : Int) (z10 : AV) (h8 : Heap), r = (.exit 0, ((Sl.enc sentences_) :: (iv scale_) :: (iv other_) :: und :: und :: und :: (AV.ptr o1 1 0 0) :: z10 :: (iv q11) :: und :: und :: und :: und :: und :: und :: AV.top :: AV.top :: AV.top :: AV.top :: AV.top :: AV.top :: AV.top :: AV.top :: AV.top :: AV.top :: AV.top :: AV.top :: AV.top :: und :: und :: und :: und :: und :: und :: und :: und :: und :: und :: und :: und :: und :: und :: und :: und :: und :: und :: und :: und :: und :: und :: und :: und :: und :: und :: und :: und :: und :: und :: und :: und :: und :: und :: und :: und :: und :: und :: und :: und :: und :: und :: und :: und :: und :: und :: und :: und :: und :: und :: und :: und :: und :: und :: und :: und :: und :: und :: und :: und :: und :: []), h8) ∧ Hold B h8 [(AV.ptr o1 1 0 0, .pt 2 [iv 0, nilS])] | .inr q102 => ∃ (q103 : Int) (h100 : Heap), r = (.ret, ((Sl.enc sentences_) :: (iv scale_) :: (iv other_) :: und :: und :: und :: (AV.ptr o1 1 0 0) :: (iv q102) :: (iv q103) :: und :: und :: und :: und :: und :: und :: AV.top :: AV.top :: AV.top :: AV.top :: AV.top :: AV.top :: AV.top :: AV.top :: AV.top :: AV.top :: AV.top :: AV.top :: AV.top :: und :: und :: und :: und :: und :: und :: und :: und :: und :: und :: und :: und :: und :: und :: und :: und :: und :: und :: und :: und :: und :: und :: und :: und :: und :: und :: und :: und :: und :: und :: und :: und :: und :: und :: und :: und :: und :: und :: und :: und :: und :: und :: und :: und :: und :: und :: und :: und :: und :: und :: und :: und :: und :: und :: und :: und :: und :: und :: und :: und :: und :: []), h100) ∧ Hold B h100 [(AV.ptr o1 1 0 0, .pt 2 [iv 0, nilS])]) := by
  refine loop_sim (Rel := fun (st : Int) tm h5 => match st with | w7 => tm = ((Sl.enc sentences_) :: (iv scale_) :: (iv other_) :: und :: und :: und :: (AV.ptr o1 1 0 0) :: AV.top :: (iv w7) :: und :: und :: und :: und :: und :: und :: AV.top :: AV.top :: AV.top :: AV.top :: AV.top :: AV.top :: AV.top :: AV.top :: AV.top :: AV.top :: AV.top :: AV.top :: AV.top :: und :: und :: und :: und :: und :: und :: und :: und :: und :: und :: und :: und :: und :: und :: und :: und :: und :: und :: und :: und :: und :: und :: und :: und :: und :: und :: und :: und :: und :: und :: und :: und :: und :: und :: und :: und :: und :: und :: und :: und :: und :: und :: und :: und :: und :: und :: und :: und :: und :: und :: und :: und :: und :: und :: und :: und :: und :: und :: und :: und :: und :: []) ∧ Hold B h5 [(AV.ptr o1 1 0 0, .pt 2 [iv 0, nilS])]) (fun w7 tm h5 R => ?_) R
  obtain ⟨rfl, O6⟩ := R
  rw [e_lb0_spec_CountModel]
  unfold s0_spec_CountModel
  dsimp only
  refine sim_let (v := iv (((sentences_.getD []).length : Nat) : Int)) (Tab.enc h5 sentences_).len ?_
  refine sim_let (v := bv (decide (w7 < (((sentences_.getD []).length : Nat) : Int)))) (aBin_lss _ _) ?_
  refine sim_cond (fun c104 => ?_) (fun c104 => ?_)
  · refine sim_get (Tab.enc h5 sentences_) (fun m106 a105 hi107 hm108 => ?_)
    refine sim_let (v := Sl.enc a105) ((Tab.enc h5 sentences_).ld hm108 false 1 0) ?_
    refine sim_call1 he_spec_l18Plain (snapD_enc _ _) (fun c109 => ?_)
    refine sim_let2 (hand_plain (by rfl) _ _) ?_
    refine sim_let (v := bv (!c109)) (aUn_not _) ?_
    refine sim_cond (fun c110 => ?_) (fun c110 => ?_)
    · refine sim_let (v := AV.agg [iv 0, nilS]) (by first | rfl | simp [aBuild, aFill, splice]) ?_
      refine sim_store O6 0 (cs' := [iv 0, nilS]) rfl (by first | rfl | simp) (by simp) (by first | rfl | simp) (by first | rfl | simp [splice]) (fun h111 O112 => ?_)
      replace O112 : Hold B h111 [(AV.ptr o1 1 0 0, .pt 2 [iv 0, nilS])] := O112
      exact sim_ret ⟨nofun, _, _, rfl, O112⟩
    · refine sim_let (v := iv (wr (w7 + 1))) (aBin_add _ _) ?_
      exact sim_ret ⟨rfl, rfl, O6⟩
  · exact sim_ret ⟨nofun, _, _, _, rfl, O6⟩
theorem ts_spec_CountModel (env : Nat → Contract) (he_spec_l00In : env n_spec_l00In = .pure (T3 within)) (he_spec_l00Max : env n_spec_l00Max = .pure (T2 (fun a b : Int => max a b))) (he_spec_l18Pairs : env n_spec_l18Pairs = .pure (C1 (fun c : (Sl Bigram) => rS c) t_spec_l18Pairs)) (he_spec_l18Plain : env n_spec_l18Plain = .pure (C1 (fun c : Bool => enc c) t_spec_l18Plain)) (he_spec_l18Put : env n_spec_l18Put = .pure (C2 (fun c : (Sl Bigram) => rS c) t_spec_l18Put)) (he_spec_l18Times : env n_spec_l18Times = .pure (C2 (fun c : Int => enc c) t_spec_l18Times)) (sentences_ : Sl (Sl ByteArray)) (scale_ : Int) (other_ : Int) : Sim (denFn Try.prog env n_spec_CountModel [Sl.enc sentences_, iv scale_, iv other_] []) (t_spec_CountModel sentences_ scale_ other_) fun c p => release p.2 depth p.1 = some ((fun c : Model × Int => AV.tup [AV.agg [iv c.1.default, rS c.1.bigrams], enc c.2]) c) := by
  have O := Hold.nil []
  generalize hB : (⟨[], []⟩ : Base) = B at O
  clear hB
  rw [e_spec_CountModel]
  unfold t_spec_CountModel
  refine sim_box O (cs := [iv 0, nilS]) (by first | rfl | simp) (fun o1 h2 O3 => ?_)
  replace O3 : Hold B h2 [(AV.ptr o1 1 0 0, .pt 2 [iv 0, nilS])] := O3
  refine sim_bind ((tl0_spec_CountModel env he_spec_l00In he_spec_l00Max he_spec_l18Pairs he_spec_l18Plain he_spec_l18Put he_spec_l18Times sentences_ scale_ other_ o1) ⟨rfl, O3⟩) (fun qq117 r hq => ?_)
  rcases qq117 with _ | q102
  · obtain ⟨q11, z10, h8, rfl, O9⟩ := hq
    rw [e_lk0x0_spec_CountModel]
    refine sim_callV3 (t := within) he_spec_l00In (snapD_int _ _) (snapD_int _ _) (snapD_int _ _) (fun c12 => ?_)
    refine sim_let (v := bv (!c12)) (aUn_not _) ?_
    refine sim_guardF (e := bv) (fun hb13 => ?_) (fun c15 => ?_)
    · refine sim_callV3 (t := within) he_spec_l00In (snapD_int _ _) (snapD_int _ _) (snapD_int _ _) (fun c14 => ?_)
      refine sim_let (v := bv (!c14)) (aUn_not _) ?_
      exact sim_ret rfl
    · refine sim_let (v := bv (bif !c12 then true else c15)) (pick_b' _ _ _) ?_
      refine sim_cond (fun c16 => ?_) (fun c16 => ?_)
      · refine sim_let (v := AV.agg [iv 0, nilS]) (by first | rfl | simp [aBuild, aFill, splice]) ?_
        refine sim_store O9 0 (cs' := [iv 0, nilS]) rfl (by first | rfl | simp) (by simp) (by first | rfl | simp) (by first | rfl | simp [splice]) (fun h17 O18 => ?_)
        replace O18 : Hold B h17 [(AV.ptr o1 1 0 0, .pt 2 [iv 0, nilS])] := O18
        refine sim_retL (resL_c (v := AV.agg [iv 0, nilS]) (O18.ld 0 rfl true 2 0) (resL_v (v := iv 2) (resL_nil _))) ?_
        dsimp only [pack]
        exact sim_ret (release_plain (by rfl) _)
      · refine sim_call1 he_spec_l18Pairs (snapD_enc _ _) (fun c19 => ?_)
        refine sim_hand (A := Bigram) O9 (fun x21 h22 O23 => ?_)
        replace O23 : Hold B h22 [(AV.ptr o1 1 0 0, .pt 2 [iv 0, nilS]), (x21, obS (c19 : Sl Bigram))] := O23
        refine sim_bind ((tl1_spec_CountModel env he_spec_l00In he_spec_l00Max he_spec_l18Pairs he_spec_l18Plain he_spec_l18Put he_spec_l18Times sentences_ scale_ other_ o1 z10 q11 c12 c15 c19 x21) ⟨rfl, O23⟩) (fun qq99 r hq => ?_)
        revert hq
        revert qq99
        intro q30 hq
        obtain ⟨q31, h28, rfl, O29⟩ := hq
        rw [e_lk1x2_spec_CountModel]
        refine sim_let (v := AV.agg [iv other_, nilS]) (by first | rfl | simp [aBuild, aFill, splice]) ?_
        refine sim_box O29 (cs := [iv 0, nilS]) (by first | rfl | simp) (fun o32 h33 O34 => ?_)
        replace O34 : Hold B h33 [(AV.ptr o1 1 0 0, .pt 2 [iv 0, nilS]), (x21, obS (c19 : Sl Bigram)), (AV.ptr o32 1 0 0, .pt 2 [iv 0, nilS])] := O34
        refine sim_store O34 2 (cs' := [iv other_, nilS]) rfl (by first | rfl | simp) (by simp) (by first | rfl | simp) (by first | rfl | simp [splice]) (fun h36 O37 => ?_)
        replace O37 : Hold B h36 [(AV.ptr o1 1 0 0, .pt 2 [iv 0, nilS]), (x21, obS (c19 : Sl Bigram)), (AV.ptr o32 1 0 0, .pt 2 [iv other_, nilS])] := O37
        have O38 : Hold B h36 [(AV.ptr o1 1 0 0, .pt 2 [iv 0, nilS]), (x21, obS (c19 : Sl Bigram)), (AV.ptr o32 1 0 0, .pt 2 [iv other_, nilS]), (nilS, obS ((none : Sl Bigram) : Sl Bigram))] := O37.addnil
        refine sim_bind ((tl2_spec_CountModel env he_spec_l00In he_spec_l00Max he_spec_l18Pairs he_spec_l18Plain he_spec_l18Put he_spec_l18Times sentences_ scale_ other_ o1 z10 q11 c12 c15 c19 x21 q30 q31 o32) ⟨_, rfl, O38⟩) (fun qq88 r hq => ?_)
        obtain ⟨q48, q50⟩ := qq88
        obtain ⟨q51, z49, z52, h46, rfl, O47⟩ := hq
        rw [e_lk2x4_spec_CountModel]
        refine sim_let (v := AV.ptr o32 1 0 1) rfl ?_
        refine sim_let (v := z49) (O47.ld 2 rfl false 1 1) ?_
        refine sim_let (v := iv (((q50.getD []).length : Nat) : Int)) (O47.tab (A := Bigram) (s := q50) 3 rfl).len ?_
        refine sim_let (v := bv (decide (60 < (((q50.getD []).length : Nat) : Int)))) (aBin_gtr _ _) ?_
        refine sim_cond (fun c53 => ?_) (fun c53 => ?_)
        · refine sim_let (v := AV.agg [iv 0, nilS]) (by first | rfl | simp [aBuild, aFill, splice]) ?_
          refine sim_store O47 0 (cs' := [iv 0, nilS]) rfl (by first | rfl | simp) (by simp) (by first | rfl | simp) (by first | rfl | simp [splice]) (fun h54 O55 => ?_)
          replace O55 : Hold B h54 [(AV.ptr o1 1 0 0, .pt 2 [iv 0, nilS]), (x21, obS (c19 : Sl Bigram)), (AV.ptr o32 1 0 0, .pt 2 [iv q48, z49]), (z49, obS (q50 : Sl Bigram))] := O55
          refine sim_retL (resL_c (v := AV.agg [iv 0, nilS]) (O55.ld 0 rfl true 2 0) (resL_v (v := iv 5) (resL_nil _))) ?_
          dsimp only [pack]
          exact sim_ret (release_plain (by rfl) _)
        · refine sim_let (v := AV.agg [iv q48, z49]) (O47.ld 2 rfl true 2 0) ?_
          refine sim_store O47 0 (cs' := [iv q48, z49]) rfl (by first | rfl | simp [(O47.one (A := Bigram) (s := q50) 3 rfl).1, (O47.one (A := Bigram) (s := q50) 3 rfl).2]) (by simp) (by first | rfl | simp [(O47.one (A := Bigram) (s := q50) 3 rfl).1, (O47.one (A := Bigram) (s := q50) 3 rfl).2]) (by first | rfl | simp [splice, (O47.one (A := Bigram) (s := q50) 3 rfl).1, (O47.one (A := Bigram) (s := q50) 3 rfl).2]) (fun h56 O57 => ?_)
          replace O57 : Hold B h56 [(AV.ptr o1 1 0 0, .pt 2 [iv q48, z49]), (x21, obS (c19 : Sl Bigram)), (AV.ptr o32 1 0 0, .pt 2 [iv q48, z49]), (z49, obS (q50 : Sl Bigram))] := O57
          refine sim_retL (resL_c (v := AV.agg [iv q48, z49]) (O57.ld 0 rfl true 2 0) (resL_v (v := iv 0) (resL_nil _))) ?_
          dsimp only [pack]
          have O58 : Hold B h56 [(z49, obS (q50 : Sl Bigram))] := O57.sel [3] (by decide) rfl
          exact sim_ret (release_of (by simp only [ids_tup, ids_aggD, ids_agg, ids_iv, ids_bv, ids_sv, ids_bt, ids_nilS, ids_enc, O58.idsD (A := Bigram) (s := q50) 0 rfl, List.map_append, List.map_nil, List.flatMap_cons, List.flatMap_nil, List.append_nil, List.nil_append]; simpa only [List.flatMap_cons, List.flatMap_nil, List.append_nil, List.nil_append] using O58.nd2) (by simp only [rel_tup, rel_aggD, rel_agg, rel_iv, rel_bv, rel_sv, rel_bt, rel_nilS, rel_enc, O58.relD (A := Bigram) (s := q50) 0 rfl, omapc, omapn, obind_sm] <;> rfl))
  · obtain ⟨q103, h100, rfl, O101⟩ := hq
    rw [e_lk0r_spec_CountModel]
    refine sim_retL (resL_c (v := AV.agg [iv 0, nilS]) (O101.ld 0 rfl true 2 0) (resL_v (v := iv q102) (resL_nil _))) ?_
    dsimp only [pack]
    exact sim_ret (release_plain (by rfl) _)
theorem tt_spec_CountModel : PureOK Try.prog n_spec_CountModel (C3 (fun c : Model × Int => AV.tup [AV.agg [iv c.1.default, rS c.1.bigrams], enc c.2]) t_spec_CountModel) := pureC3 (Econs ok_spec_l00In (Econs ok_spec_l00Max (Econs tt_spec_l18Pairs (Econs tt_spec_l18Plain (Econs tt_spec_l18Put (Econs tt_spec_l18Times E0)))))) mixed hb_spec_CountModel fun sentences_ scale_ other_ => ts_spec_CountModel _ (by simp [envL]) (by simp [envL]) (by simp [envL]) (by simp [envL]) (by simp [envL]) (by simp [envL]) sentences_ scale_ other_

def s0_slices_IndexFunc_string_string (p_ : ByteArray → Option Bool) (s_ : Sl ByteArray) : Int → Option (Sum Int (Sum Unit Int)) := fun w3 =>
  bif decide (w3 < (((s_.getD []).length : Nat) : Int)) then
    obind (getI (s_.getD []) w3) fun a13 =>
    obind (p_ a13) fun c17 =>
    bif c17 then
      some (.inr (.inr w3))
    else
      some (.inl (wr (w3 + 1)))
  else
    some (.inr (.inl ()))
def t_slices_IndexFunc_string_string (p_ : ByteArray → Option Bool) (s_ : Sl ByteArray) : Option Int :=
  obind (loopT (s0_slices_IndexFunc_string_string p_ s_) 0) fun qq26 => match qq26 with
  | (.inl _) =>
      some (-1)
  | (.inr q10) =>
      some q10

theorem tl0_slices_IndexFunc_string_string (env : Nat → Contract) {B : Base} {K : Type} [Cod K] {g : Nat} {caps : K → List AV} {P : K → ByteArray → Option Bool} (hp : ∀ k (a : ByteArray) h, Sim (aCall (env g) (enc a :: caps k) h) (P k a) fun b r => r = (bv b, h))  (s_ : Sl ByteArray) (f_ : K)  {st : Int} {tm : TM} {h : Heap} (R : (fun (st : Int) tm h1 => match st with | w3 => tm = [Sl.enc s_, AV.fn g (caps f_), und, und, AV.top, AV.top, Sl.enc s_, iv (((s_.getD []).length : Nat) : Int), iv w3, AV.top, AV.top, AV.top, AV.top, AV.top, AV.top, AV.top, AV.top, AV.top, AV.top] ∧ Hold B h1 []) st tm h) : Sim (loopP hm0_slices_IndexFunc_string_string xm0_slices_IndexFunc_string_string (lb0_slices_IndexFunc_string_string env) tm h) (loopT (s0_slices_IndexFunc_string_string (P f_) s_) st) (fun (q : Sum Unit Int) (r : Res) => match q with | .inl _ => ∃ (z6 : AV) (z7 : AV) (h4 : Heap), r = (.exit 0, [Sl.enc s_, AV.fn g (caps f_), und, und, z6, z7, Sl.enc s_, iv (((s_.getD []).length : Nat) : Int), AV.top, AV.top, AV.top, AV.top, AV.top, AV.top, AV.top, AV.top, AV.top, AV.top, AV.top], h4) ∧ Hold B h4 [] | .inr q10 => ∃ (q11 : Int) (h8 : Heap), r = (.ret, [Sl.enc s_, AV.fn g (caps f_), und, und, iv q10, iv q11, Sl.enc s_, iv (((s_.getD []).length : Nat) : Int), AV.top, AV.top, AV.top, AV.top, AV.top, AV.top, AV.top, AV.top, AV.top, AV.top, AV.top], h8) ∧ Hold B h8 []) := by
  refine loop_sim (Rel := fun (st : Int) tm h1 => match st with | w3 => tm = [Sl.enc s_, AV.fn g (caps f_), und, und, AV.top, AV.top, Sl.enc s_, iv (((s_.getD []).length : Nat) : Int), iv w3, AV.top, AV.top, AV.top, AV.top, AV.top, AV.top, AV.top, AV.top, AV.top, AV.top] ∧ Hold B h1 []) (fun w3 tm h1 R => ?_) R
  obtain ⟨rfl, O2⟩ := R
  rw [e_lb0_slices_IndexFunc_string_string]
  unfold s0_slices_IndexFunc_string_string
  dsimp only
  refine sim_let (v := bv (decide (w3 < (((s_.getD []).length : Nat) : Int)))) (aBin_lss _ _) ?_
  refine sim_cond (fun c12 => ?_) (fun c12 => ?_)
  · refine sim_get (Tab.enc h1 s_) (fun m14 a13 hi15 hm16 => ?_)
    refine sim_let (v := sv a13) ((Tab.enc h1 s_).ld hm16 false 1 0) ?_
    refine sim_bind2 (hp f_ a13 _) (fun c17 v18 hh19 hq20 => ?_)
    cases hq20
    refine sim_cond (fun c21 => ?_) (fun c21 => ?_)
    · exact sim_ret ⟨nofun, _, _, rfl, O2⟩
    · refine sim_let (v := iv (wr (w3 + 1))) (aBin_add _ _) ?_
      exact sim_ret ⟨rfl, rfl, O2⟩
  · exact sim_ret ⟨nofun, _, _, _, rfl, O2⟩
theorem ts_slices_IndexFunc_string_string (env : Nat → Contract) {K : Type} [Cod K] {g : Nat} {caps : K → List AV} {P : K → ByteArray → Option Bool} (hp : ∀ k (a : ByteArray) h, Sim (aCall (env g) (enc a :: caps k) h) (P k a) fun b r => r = (bv b, h))  (s_ : Sl ByteArray) (f_ : K) : Sim (denFn Try.prog env n_slices_IndexFunc_string_string [Sl.enc s_, AV.fn g (caps f_)] []) (t_slices_IndexFunc_string_string (P f_) s_) fun c p => release p.2 depth p.1 = some ((fun c : Int => enc c) c) := by
  have O := Hold.nil []
  generalize hB : (⟨[], []⟩ : Base) = B at O
  clear hB
  rw [e_slices_IndexFunc_string_string]
  unfold t_slices_IndexFunc_string_string
  refine sim_let (v := iv (((s_.getD []).length : Nat) : Int)) (Tab.enc [] s_).len ?_
  refine sim_bind ((tl0_slices_IndexFunc_string_string env hp s_ f_) ⟨rfl, O⟩) (fun qq26 r hq => ?_)
  rcases qq26 with _ | q10
  · obtain ⟨z6, z7, h4, rfl, O5⟩ := hq
    rw [e_lk0x0_slices_IndexFunc_string_string]
    exact sim_ret (release_plain (by rfl) _)
  · obtain ⟨q11, h8, rfl, O9⟩ := hq
    rw [e_lk0r_slices_IndexFunc_string_string]
    exact sim_ret (release_plain (by rfl) _)
theorem tt0_slices_IndexFunc_string_string {g : Nat} {t : ByteArray → Option Bool} (hg : PureOK Try.prog g (C1 (fun c : Bool => enc c) t)) : PureOK Try.prog n_slices_IndexFunc_string_string (C2 (fun c : Int => enc c) (fun (q : Sl ByteArray) (k : Clo0 g) => t_slices_IndexFunc_string_string ((fun _ : Clo0 g => t) k) q)) := pureC2 (Econs hg E0) mixed hb_slices_IndexFunc_string_string fun q k => ts_slices_IndexFunc_string_string _ (caps := fun _ => []) (P := (fun _ : Clo0 g => t)) (fun k a h => callP0 (by simp [envL]) (snapD_str _ a)) q k
theorem tt1_slices_IndexFunc_string_string {g : Nat} {X : Type} [Row X] {tp : ByteArray → Pt X → Option Bool} (hg : PureOK Try.prog g (C2 (fun c : Bool => enc c) tp)) : PureOK Try.prog n_slices_IndexFunc_string_string (C2 (fun c : Int => enc c) (fun (q : Sl ByteArray) (k : Clo g (Pt X)) => t_slices_IndexFunc_string_string ((fun (k : Clo g (Pt X)) a => tp a k.val) k) q)) := pureC2 (Econs hg E0) mixed hb_slices_IndexFunc_string_string fun q k => ts_slices_IndexFunc_string_string _ (caps := fun k : Clo g (Pt X) => [enc k.val]) (P := (fun (k : Clo g (Pt X)) a => tp a k.val)) (fun k a h => callP1 (by simp [envL]) (snapD_str _ a) (snapD_fptr _ _ _ _ rfl)) q k

def t_slices_ContainsFunc_string_string (p_ : ByteArray → Option Bool) (s_ : Sl ByteArray) : Option Bool :=
  obind (t_slices_IndexFunc_string_string p_ s_) fun c1 =>
  some (decide (0 ≤ c1))

theorem ts_slices_ContainsFunc_string_string (env : Nat → Contract) {K : Type} [Cod K] {g : Nat} {caps : K → List AV} {P : K → ByteArray → Option Bool} (hs : ∀ k h, snapD h (AV.fn g (caps k)) = some k) (he_slices_IndexFunc_string_string : env n_slices_IndexFunc_string_string = .pure (C2 (fun c : Int => enc c) (fun (q : Sl ByteArray) (k : K) => t_slices_IndexFunc_string_string (P k) q))) (s_ : Sl ByteArray) (f_ : K) : Sim (denFn Try.prog env n_slices_ContainsFunc_string_string [Sl.enc s_, AV.fn g (caps f_)] []) (t_slices_ContainsFunc_string_string (P f_) s_) fun c p => release p.2 depth p.1 = some ((fun c : Bool => enc c) c) := by
  have O := Hold.nil []
  generalize hB : (⟨[], []⟩ : Base) = B at O
  clear hB
  rw [e_slices_ContainsFunc_string_string]
  unfold t_slices_ContainsFunc_string_string
  refine sim_call2 (t := fun (q : Sl ByteArray) (k : K) => t_slices_IndexFunc_string_string (P k) q) he_slices_IndexFunc_string_string (snapD_enc _ _) (hs f_ _) (fun c1 => ?_)
  refine sim_let2 (hand_plain (by rfl) _ _) ?_
  refine sim_let (v := bv (decide (0 ≤ c1))) (aBin_geq _ _) ?_
  exact sim_ret (release_plain (by rfl) _)
theorem tt0_slices_ContainsFunc_string_string {g : Nat} {t : ByteArray → Option Bool} (hg : PureOK Try.prog g (C1 (fun c : Bool => enc c) t)) : PureOK Try.prog n_slices_ContainsFunc_string_string (C2 (fun c : Bool => enc c) (fun (q : Sl ByteArray) (k : Clo0 g) => t_slices_ContainsFunc_string_string ((fun _ : Clo0 g => t) k) q)) := pureC2 (Econs (tt0_slices_IndexFunc_string_string hg) E0) mixed hb_slices_ContainsFunc_string_string fun q k => ts_slices_ContainsFunc_string_string _ (caps := fun _ => []) (P := (fun _ : Clo0 g => t)) (fun k h => snapD_clo0 h g) (by simp [envL]) q k
theorem tt1_slices_ContainsFunc_string_string {g : Nat} {X : Type} [Row X] {tp : ByteArray → Pt X → Option Bool} (hg : PureOK Try.prog g (C2 (fun c : Bool => enc c) tp)) : PureOK Try.prog n_slices_ContainsFunc_string_string (C2 (fun c : Bool => enc c) (fun (q : Sl ByteArray) (k : Clo g (Pt X)) => t_slices_ContainsFunc_string_string ((fun (k : Clo g (Pt X)) a => tp a k.val) k) q)) := pureC2 (Econs (tt1_slices_IndexFunc_string_string hg) E0) mixed hb_slices_ContainsFunc_string_string fun q k => ts_slices_ContainsFunc_string_string _ (caps := fun k : Clo g (Pt X) => [enc k.val]) (P := (fun (k : Clo g (Pt X)) a => tp a k.val)) (fun k h => snapD_cloE h k) (by simp [envL]) q k

def s0_impl_IsWord (l5 : List UInt8) : Int → Option (Sum Int (Sum Unit Bool)) := fun w8 =>
  bif decide (w8 < ((((some l5).getD []).length : Nat) : Int)) then
    obind (getI ((some l5).getD []) w8) fun a20 =>
    obind (some (isLow a20)) fun c24 =>
    bif !c24 then
      some (.inr (.inr false))
    else
      some (.inl (wr (w8 + 1)))
  else
    some (.inr (.inl ()))
def t_impl_IsWord (s_ : ByteArray) : Option Bool :=
  obind (bytesO s_) fun l5 =>
  obind (loopT (s0_impl_IsWord l5) 0) fun qq30 => match qq30 with
  | (.inl _) =>
      obind (bif decide (1 ≤ (s_.size : Int)) then (some (decide ((s_.size : Int) ≤ 10))) else some false) fun c14 =>
      some (bif decide (1 ≤ (s_.size : Int)) then c14 else false)
  | (.inr q17) =>
      some q17

theorem tl0_impl_IsWord (env : Nat → Contract) {B : Base} (he_impl_isLetter : env n_impl_isLetter = .pure (T1 isLow)) (s_ : ByteArray) (x1 : AV) (l5 : List UInt8)  {st : Int} {tm : TM} {h : Heap} (R : (fun (st : Int) tm h6 => match st with | w8 => tm = [sv s_, und, AV.top, und, AV.top, sv s_, x1, iv ((((some l5).getD []).length : Nat) : Int), iv w8, AV.top, AV.top, AV.top, AV.top, AV.top, AV.top, AV.top, und, und, und, und, und, und, und, und] ∧ Hold B h6 [(x1, obS ((some l5) : Sl UInt8))]) st tm h) : Sim (loopP hm0_impl_IsWord xm0_impl_IsWord (lb0_impl_IsWord env) tm h) (loopT (s0_impl_IsWord l5) st) (fun (q : Sum Unit Bool) (r : Res) => match q with | .inl _ => ∃ (z11 : AV) (z12 : AV) (h9 : Heap), r = (.exit 0, [sv s_, und, z11, und, z12, sv s_, x1, iv ((((some l5).getD []).length : Nat) : Int), AV.top, AV.top, AV.top, AV.top, AV.top, AV.top, AV.top, AV.top, und, und, und, und, und, und, und, und], h9) ∧ Hold B h9 [(x1, obS ((some l5) : Sl UInt8))] | .inr q17 => ∃ (q18 : UInt8) (h15 : Heap), r = (.ret, [sv s_, und, bv q17, und, bt q18, sv s_, x1, iv ((((some l5).getD []).length : Nat) : Int), AV.top, AV.top, AV.top, AV.top, AV.top, AV.top, AV.top, AV.top, und, und, und, und, und, und, und, und], h15) ∧ Hold B h15 [(x1, obS ((some l5) : Sl UInt8))]) := by
  refine loop_sim (Rel := fun (st : Int) tm h6 => match st with | w8 => tm = [sv s_, und, AV.top, und, AV.top, sv s_, x1, iv ((((some l5).getD []).length : Nat) : Int), iv w8, AV.top, AV.top, AV.top, AV.top, AV.top, AV.top, AV.top, und, und, und, und, und, und, und, und] ∧ Hold B h6 [(x1, obS ((some l5) : Sl UInt8))]) (fun w8 tm h6 R => ?_) R
  obtain ⟨rfl, O7⟩ := R
  rw [e_lb0_impl_IsWord]
  unfold s0_impl_IsWord
  dsimp only
  refine sim_let (v := bv (decide (w8 < ((((some l5).getD []).length : Nat) : Int)))) (aBin_lss _ _) ?_
  refine sim_cond (fun c19 => ?_) (fun c19 => ?_)
  · refine sim_get (O7.tab (A := UInt8) (s := (some l5)) 0 rfl) (fun m21 a20 hi22 hm23 => ?_)
    refine sim_let (v := bt a20) ((O7.tab (A := UInt8) (s := (some l5)) 0 rfl).ld hm23 false 1 0) ?_
    refine sim_callV1 (t := isLow) he_impl_isLetter (snapD_byte _ _) (fun c24 => ?_)
    refine sim_let (v := bv (!c24)) (aUn_not _) ?_
    refine sim_cond (fun c25 => ?_) (fun c25 => ?_)
    · exact sim_ret ⟨nofun, _, _, rfl, O7⟩
    · refine sim_let (v := iv (wr (w8 + 1))) (aBin_add _ _) ?_
      exact sim_ret ⟨rfl, rfl, O7⟩
  · exact sim_ret ⟨nofun, _, _, _, rfl, O7⟩
theorem ts_impl_IsWord (env : Nat → Contract) (he_impl_isLetter : env n_impl_isLetter = .pure (T1 isLow)) (s_ : ByteArray) : Sim (denFn Try.prog env n_impl_IsWord [sv s_] []) (t_impl_IsWord s_) fun c p => release p.2 depth p.1 = some ((fun c : Bool => enc c) c) := by
  have O := Hold.nil []
  generalize hB : (⟨[], []⟩ : Base) = B at O
  clear hB
  rw [e_impl_IsWord]
  unfold t_impl_IsWord
  refine sim_bytes O (fun l5 x1 h2 O3 => ?_)
  replace O3 : Hold B h2 [(x1, obS ((some l5) : Sl UInt8))] := O3
  refine sim_let (v := iv ((((some l5).getD []).length : Nat) : Int)) (O3.tab (A := UInt8) (s := (some l5)) 0 rfl).len ?_
  refine sim_bind ((tl0_impl_IsWord env he_impl_isLetter s_ x1 l5) ⟨rfl, O3⟩) (fun qq30 r hq => ?_)
  rcases qq30 with _ | q17
  · obtain ⟨z11, z12, h9, rfl, O10⟩ := hq
    rw [e_lk0x0_impl_IsWord]
    refine sim_let (v := iv (s_.size : Int)) rfl ?_
    refine sim_let (v := bv (decide (1 ≤ (s_.size : Int)))) (aBin_geq _ _) ?_
    refine sim_guardT (e := bv) (fun hb13 => ?_) (fun c14 => ?_)
    · refine sim_let (v := iv (s_.size : Int)) rfl ?_
      refine sim_let (v := bv (decide ((s_.size : Int) ≤ 10))) (aBin_leq _ _) ?_
      exact sim_ret rfl
    · refine sim_let (v := bv (bif decide (1 ≤ (s_.size : Int)) then c14 else false)) (pick_b _ _ _) ?_
      exact sim_ret (release_plain (by rfl) _)
  · obtain ⟨q18, h15, rfl, O16⟩ := hq
    rw [e_lk0r_impl_IsWord]
    exact sim_ret (release_plain (by rfl) _)
theorem tt_impl_IsWord : PureOK Try.prog n_impl_IsWord (C1 (fun c : Bool => enc c) t_impl_IsWord) := pureC1 (Econs ok_impl_isLetter E0) mixed hb_impl_IsWord fun s_ => ts_impl_IsWord _ (by simp [envL]) s_

def t_impl_CountModel_1 (w_ : ByteArray) : Option Bool :=
  obind (t_impl_IsWord w_) fun c1 =>
  some (!c1)

theorem ts_impl_CountModel_1 (env : Nat → Contract) (he_impl_IsWord : env n_impl_IsWord = .pure (C1 (fun c : Bool => enc c) t_impl_IsWord)) (w_ : ByteArray) : Sim (denFn Try.prog env n_impl_CountModel_1 [sv w_] []) (t_impl_CountModel_1 w_) fun c p => release p.2 depth p.1 = some ((fun c : Bool => enc c) c) := by
  have O := Hold.nil []
  generalize hB : (⟨[], []⟩ : Base) = B at O
  clear hB
  rw [e_impl_CountModel_1]
  unfold t_impl_CountModel_1
  refine sim_call1 he_impl_IsWord (snapD_str _ _) (fun c1 => ?_)
  refine sim_let2 (hand_plain (by rfl) _ _) ?_
  refine sim_let (v := bv (!c1)) (aUn_not _) ?_
  exact sim_ret (release_plain (by rfl) _)
theorem tt_impl_CountModel_1 : PureOK Try.prog n_impl_CountModel_1 (C1 (fun c : Bool => enc c) t_impl_CountModel_1) := pureC1 (Econs tt_impl_IsWord E0) mixed hb_impl_CountModel_1 fun w_ => ts_impl_CountModel_1 _ (by simp [envL]) w_

def s2_impl_countPairs (w15 : Sl Bigram) : ((Sl Bigram) × Int) → Option (Sum ((Sl Bigram) × Int) (Sl Bigram)) := fun (w21, w24) =>
  bif decide (w24 < (((w15.getD []).length : Nat) : Int)) then
    obind (getI (w15.getD []) w24) fun a32 =>
    obind (bif decide (0 < w24) then (obind (getI (w15.getD []) (wr (w24 - 1))) fun a43 => obind (some (cmpB a43 a32)) fun c47 => some (decide (c47 = 0))) else some false) fun c48 =>
    bif (bif decide (0 < w24) then c48 else false) then
      obind (getI (w21.getD []) (wr ((((w21.getD []).length : Nat) : Int) - 1))) fun a57 =>
      obind (getI (w21.getD []) (wr ((((w21.getD []).length : Nat) : Int) - 1))) fun a61 =>
      some (.inl ((setS w21 (wr ((((w21.getD []).length : Nat) : Int) - 1)) (⟨a61.first, a61.second, wr (a57.cost + 1)⟩ : Bigram)), wr (w24 + 1)))
    else
      obind (appO w21 ([a32] : List Bigram)) fun _ =>
      some (.inl ((appS w21 ([a32] : List Bigram)), wr (w24 + 1)))
  else
    some (.inr w21)
def s1_impl_countPairs (a83 : (Sl ByteArray)) : ((Sl Bigram) × ByteArray × Int) → Option (Sum ((Sl Bigram) × ByteArray × Int) (Sl Bigram)) := fun (w88, w91, w92) =>
  bif decide (w92 < (((a83.getD []).length : Nat) : Int)) then
    obind (getI (a83.getD []) w92) fun a101 =>
    obind (appO w88 ([(⟨w91, a101, 1⟩ : Bigram)] : List Bigram)) fun _ =>
    some (.inl ((appS w88 ([(⟨w91, a101, 1⟩ : Bigram)] : List Bigram)), a101, wr (w92 + 1)))
  else
    some (.inr w88)
def s0_impl_countPairs (sentences_ : Sl (Sl ByteArray)) : ((Sl Bigram) × Int) → Option (Sum ((Sl Bigram) × Int) (Sl Bigram)) := fun (w4, w7) =>
  bif decide (w7 < (((sentences_.getD []).length : Nat) : Int)) then
    obind (getI (sentences_.getD []) w7) fun a83 =>
    obind (loopT (s1_impl_countPairs a83) (w4, (⟨#[]⟩ : ByteArray), 0)) fun q96 =>
    some (.inl (q96, wr (w7 + 1)))
  else
    some (.inr w4)
def t_impl_countPairs (sentences_ : Sl (Sl ByteArray)) : Option (Sl Bigram) :=
  obind (loopT (s0_impl_countPairs sentences_) ((none : Sl Bigram), 0)) fun q11 =>
  obind (sortWO q11) fun w15 =>
  obind (loopT (s2_impl_countPairs w15) ((none : Sl Bigram), 0)) fun q28 =>
  some q28

theorem tl2_impl_countPairs (env : Nat → Contract) {B : Base} (he_impl_compareBigrams : env n_impl_compareBigrams = .pure (T2 cmpB)) (he_slices_SortFunc_impl_Bigram_impl_Bigram : env n_slices_SortFunc_impl_Bigram_impl_Bigram = .gen (sortWF leW n_impl_compareBigrams)) (sentences_ : Sl (Sl ByteArray)) (z10 : AV) (z12 : AV) (z13 : AV) (z14 : AV) (w15 : Sl Bigram)  {st : (Sl Bigram) × Int} {tm : TM} {h : Heap} (R : (fun (st : (Sl Bigram) × Int) tm h22 => match st with | (w21, w24) => ∃ z20, tm = ((Sl.enc sentences_) :: und :: nilS :: z10 :: und :: z12 :: z13 :: und :: z14 :: z20 :: AV.top :: AV.top :: (Sl.enc sentences_) :: (iv (((sentences_.getD []).length : Nat) : Int)) :: AV.top :: AV.top :: AV.top :: AV.top :: AV.top :: AV.top :: AV.top :: AV.top :: AV.top :: AV.top :: AV.top :: AV.top :: AV.top :: AV.top :: AV.top :: AV.top :: AV.top :: AV.top :: AV.top :: z10 :: und :: z10 :: (iv (((w15.getD []).length : Nat) : Int)) :: (iv w24) :: AV.top :: AV.top :: AV.top :: AV.top :: AV.top :: AV.top :: AV.top :: AV.top :: AV.top :: AV.top :: AV.top :: AV.top :: AV.top :: AV.top :: AV.top :: AV.top :: AV.top :: AV.top :: AV.top :: AV.top :: AV.top :: AV.top :: AV.top :: AV.top :: AV.top :: AV.top :: AV.top :: AV.top :: AV.top :: AV.top :: AV.top :: und :: []) ∧ Hold B h22 [(z10, obS (w15 : Sl Bigram)), (z20, obS (w21 : Sl Bigram))]) st tm h) : Sim (loopP hm2_impl_countPairs xm2_impl_countPairs (lb2_impl_countPairs env) tm h) (loopT (s2_impl_countPairs w15) st) (fun (q : Sl Bigram) (r : Res) => match q with | q28 => ∃ (z27 : AV) (z29 : AV) (z30 : AV) (h25 : Heap), r = (.exit 4, ((Sl.enc sentences_) :: und :: nilS :: z10 :: und :: z12 :: z13 :: und :: z14 :: z27 :: z29 :: z30 :: (Sl.enc sentences_) :: (iv (((sentences_.getD []).length : Nat) : Int)) :: AV.top :: AV.top :: AV.top :: AV.top :: AV.top :: AV.top :: AV.top :: AV.top :: AV.top :: AV.top :: AV.top :: AV.top :: AV.top :: AV.top :: AV.top :: AV.top :: AV.top :: AV.top :: AV.top :: z10 :: und :: z10 :: (iv (((w15.getD []).length : Nat) : Int)) :: AV.top :: AV.top :: AV.top :: AV.top :: AV.top :: AV.top :: AV.top :: AV.top :: AV.top :: AV.top :: AV.top :: AV.top :: AV.top :: AV.top :: AV.top :: AV.top :: AV.top :: AV.top :: AV.top :: AV.top :: AV.top :: AV.top :: AV.top :: AV.top :: AV.top :: AV.top :: AV.top :: AV.top :: AV.top :: AV.top :: AV.top :: AV.top :: und :: []), h25) ∧ Hold B h25 [(z10, obS (w15 : Sl Bigram)), (z27, obS (q28 : Sl Bigram))]) := by
  refine loop_sim (Rel := fun (st : (Sl Bigram) × Int) tm h22 => match st with | (w21, w24) => ∃ z20, tm = ((Sl.enc sentences_) :: und :: nilS :: z10 :: und :: z12 :: z13 :: und :: z14 :: z20 :: AV.top :: AV.top :: (Sl.enc sentences_) :: (iv (((sentences_.getD []).length : Nat) : Int)) :: AV.top :: AV.top :: AV.top :: AV.top :: AV.top :: AV.top :: AV.top :: AV.top :: AV.top :: AV.top :: AV.top :: AV.top :: AV.top :: AV.top :: AV.top :: AV.top :: AV.top :: AV.top :: AV.top :: z10 :: und :: z10 :: (iv (((w15.getD []).length : Nat) : Int)) :: (iv w24) :: AV.top :: AV.top :: AV.top :: AV.top :: AV.top :: AV.top :: AV.top :: AV.top :: AV.top :: AV.top :: AV.top :: AV.top :: AV.top :: AV.top :: AV.top :: AV.top :: AV.top :: AV.top :: AV.top :: AV.top :: AV.top :: AV.top :: AV.top :: AV.top :: AV.top :: AV.top :: AV.top :: AV.top :: AV.top :: AV.top :: AV.top :: und :: []) ∧ Hold B h22 [(z10, obS (w15 : Sl Bigram)), (z20, obS (w21 : Sl Bigram))]) (fun st tm h22 R => ?_) R
  obtain ⟨w21, w24⟩ := st
  obtain ⟨z20, rfl, O23⟩ := R
  rw [e_lb2_impl_countPairs]
  unfold s2_impl_countPairs
  dsimp only
  refine sim_let (v := bv (decide (w24 < (((w15.getD []).length : Nat) : Int)))) (aBin_lss _ _) ?_
  refine sim_cond (fun c31 => ?_) (fun c31 => ?_)
  · refine sim_get (O23.tab (A := Bigram) (s := w15) 0 rfl) (fun m33 a32 hi34 hm35 => ?_)
    refine sim_let (v := AV.agg [sv a32.first, sv a32.second, iv a32.cost]) ((O23.tab (A := Bigram) (s := w15) 0 rfl).ld hm35 true 3 0) ?_
    refine sim_box O23 (cs := [sv (⟨#[]⟩ : ByteArray), sv (⟨#[]⟩ : ByteArray), iv 0]) (by first | rfl | simp) (fun o36 h37 O38 => ?_)
    replace O38 : Hold B h37 [(z10, obS (w15 : Sl Bigram)), (z20, obS (w21 : Sl Bigram)), (AV.ptr o36 1 0 0, .pt 3 [sv (⟨#[]⟩ : ByteArray), sv (⟨#[]⟩ : ByteArray), iv 0])] := O38
    refine sim_store O38 2 (cs' := [sv a32.first, sv a32.second, iv a32.cost]) rfl (by first | rfl | simp) (by simp) (by first | rfl | simp) (by first | rfl | simp [splice]) (fun h40 O41 => ?_)
    replace O41 : Hold B h40 [(z10, obS (w15 : Sl Bigram)), (z20, obS (w21 : Sl Bigram)), (AV.ptr o36 1 0 0, .pt 3 [sv a32.first, sv a32.second, iv a32.cost])] := O41
    refine sim_let (v := bv (decide (0 < w24))) (aBin_gtr _ _) ?_
    refine sim_g8T (e := bv) (fun hb42 => ?_) (fun y49 y50 y51 y52 y53 y54 y55 c48 => ?_)
    · refine sim_o0 ?_
      refine sim_o0 ?_
      refine sim_o1 ?_
      refine sim_let (v := iv (wr (w24 - 1))) (aBin_sub _ _) ?_
      refine sim_o0 ?_
      refine sim_o1 ?_
      refine sim_get (O41.tab (A := Bigram) (s := w15) 0 rfl) (fun m44 a43 hi45 hm46 => ?_)
      refine sim_o0 ?_
      refine sim_o1 ?_
      refine sim_let (v := AV.agg [sv a43.first, sv a43.second, iv a43.cost]) ((O41.tab (A := Bigram) (s := w15) 0 rfl).ld hm46 true 3 0) ?_
      refine sim_o0 ?_
      refine sim_o1 ?_
      refine sim_let (v := AV.agg [sv a32.first, sv a32.second, iv a32.cost]) (O41.ld 2 rfl true 3 0) ?_
      refine sim_o0 ?_
      refine sim_o2 ?_
      refine sim_callVQ2 (t := cmpB) he_impl_compareBigrams (snapD_nr _ a43 rfl) (snapD_nr _ a32 rfl) (fun c47 => ?_)
      refine sim_o0 ?_
      refine sim_let (v := bv (decide (c47 = 0))) (aCmp_eq _ _) ?_
      exact sim_ret rfl
    · refine sim_let (v := bv (bif decide (0 < w24) then c48 else false)) (pick_b _ _ _) ?_
      refine sim_cond (fun c56 => ?_) (fun c56 => ?_)
      · refine sim_let (v := iv (((w21.getD []).length : Nat) : Int)) (O41.tab (A := Bigram) (s := w21) 1 rfl).len ?_
        refine sim_let (v := iv (wr ((((w21.getD []).length : Nat) : Int) - 1))) (aBin_sub _ _) ?_
        refine sim_get (O41.tab (A := Bigram) (s := w21) 1 rfl) (fun m58 a57 hi59 hm60 => ?_)
        refine sim_let (v := elp z20 m58 2) ((O41.tab (A := Bigram) (s := w21) 1 rfl).fld _ _ _) ?_
        refine sim_let (v := iv a57.cost) ((O41.tab (A := Bigram) (s := w21) 1 rfl).ld hm60 false 1 2) ?_
        refine sim_let (v := iv (wr (a57.cost + 1))) (aBin_add _ _) ?_
        refine sim_get (O41.tab (A := Bigram) (s := w21) 1 rfl) (fun m62 a61 hi63 hm64 => ?_)
        refine sim_let (v := elp z20 m62 2) ((O41.tab (A := Bigram) (s := w21) 1 rfl).fld _ _ _) ?_
        refine sim_set (A := Bigram) O41 1 (⟨a61.first, a61.second, wr (a57.cost + 1)⟩ : Bigram) rfl hi63 hm64 rfl (by simp) (by first | rfl | simp) (by first | rfl | simp [splice]) (fun h65 O66 => ?_)
        replace O66 : Hold B h65 [(z10, obS (w15 : Sl Bigram)), (z20, obS ((setS w21 (wr ((((w21.getD []).length : Nat) : Int) - 1)) (⟨a61.first, a61.second, wr (a57.cost + 1)⟩ : Bigram)) : Sl Bigram)), (AV.ptr o36 1 0 0, .pt 3 [sv a32.first, sv a32.second, iv a32.cost])] := O66
        refine sim_let (v := iv (wr (w24 + 1))) (aBin_add _ _) ?_
        have O67 : Hold B h65 [(z10, obS (w15 : Sl Bigram)), (z20, obS ((setS w21 (wr ((((w21.getD []).length : Nat) : Int) - 1)) (⟨a61.first, a61.second, wr (a57.cost + 1)⟩ : Bigram)) : Sl Bigram))] := O66.sel [0, 1] (by decide) rfl
        exact sim_ret ⟨rfl, _, rfl, O67⟩
      · refine sim_let (v := AV.agg [sv a32.first, sv a32.second, iv a32.cost]) (O41.ld 2 rfl true 3 0) ?_
        refine sim_build (A := Bigram) O41 ([a32] : List Bigram) rfl (by first | rfl | simp [aFillRows, zrows]) rfl (fun x68 h69 O70 => ?_)
        replace O70 : Hold B h69 [(z10, obS (w15 : Sl Bigram)), (z20, obS (w21 : Sl Bigram)), (AV.ptr o36 1 0 0, .pt 3 [sv a32.first, sv a32.second, iv a32.cost]), (x68, obS ((some ([a32] : List Bigram)) : Sl Bigram))] := O70
        refine sim_append (A := Bigram) (s := w21) O70 1 ([a32] : List Bigram) rfl (O70.src (A := Bigram) (s := (some ([a32] : List Bigram))) 3 rfl) (by decide) (fun x73 h74 O75 => ?_)
        replace O75 : Hold B h74 [(z10, obS (w15 : Sl Bigram)), (x73, obS ((appS w21 ([a32] : List Bigram)) : Sl Bigram)), (AV.ptr o36 1 0 0, .pt 3 [sv a32.first, sv a32.second, iv a32.cost]), (x68, obS ((some ([a32] : List Bigram)) : Sl Bigram))] := O75
        have O77 : Hold B h74 [(z10, obS (w15 : Sl Bigram)), (x73, obS ((appS w21 ([a32] : List Bigram)) : Sl Bigram)), (AV.ptr o36 1 0 0, .pt 3 [sv a32.first, sv a32.second, iv a32.cost])] := O75.sel [0, 1, 2] (by decide) rfl
        refine sim_let (v := iv (wr (w24 + 1))) (aBin_add _ _) ?_
        have O78 : Hold B h74 [(z10, obS (w15 : Sl Bigram)), (x73, obS ((appS w21 ([a32] : List Bigram)) : Sl Bigram))] := O77.sel [0, 1] (by decide) rfl
        exact sim_ret ⟨rfl, _, rfl, O78⟩
  · exact sim_ret ⟨nofun, _, _, _, _, rfl, O23⟩
theorem tl1_impl_countPairs (env : Nat → Contract) {B : Base} (he_impl_compareBigrams : env n_impl_compareBigrams = .pure (T2 cmpB)) (he_slices_SortFunc_impl_Bigram_impl_Bigram : env n_slices_SortFunc_impl_Bigram_impl_Bigram = .gen (sortWF leW n_impl_compareBigrams)) (sentences_ : Sl (Sl ByteArray)) (w7 : Int) (a83 : (Sl ByteArray)) (m84 : Nat)  {st : (Sl Bigram) × ByteArray × Int} {tm : TM} {h : Heap} (R : (fun (st : (Sl Bigram) × ByteArray × Int) tm h89 => match st with | (w88, w91, w92) => ∃ z87, tm = ((Sl.enc sentences_) :: und :: nilS :: z87 :: und :: (Sl.enc a83) :: (sv w91) :: und :: AV.top :: und :: und :: und :: (Sl.enc sentences_) :: (iv (((sentences_.getD []).length : Nat) : Int)) :: (iv w7) :: (bv (decide (w7 < (((sentences_.getD []).length : Nat) : Int)))) :: (elp (Sl.enc sentences_) m84 0) :: (Sl.enc a83) :: (Sl.enc a83) :: (iv (((a83.getD []).length : Nat) : Int)) :: (iv w92) :: AV.top :: AV.top :: AV.top :: AV.top :: AV.top :: AV.top :: AV.top :: AV.top :: AV.top :: AV.top :: AV.top :: AV.top :: und :: und :: und :: und :: und :: und :: und :: und :: und :: und :: und :: und :: und :: und :: und :: und :: und :: und :: und :: und :: und :: und :: und :: und :: und :: und :: und :: und :: und :: und :: und :: und :: und :: und :: und :: und :: und :: []) ∧ Hold B h89 [(z87, obS (w88 : Sl Bigram))]) st tm h) : Sim (loopP hm1_impl_countPairs xm1_impl_countPairs (lb1_impl_countPairs env) tm h) (loopT (s1_impl_countPairs a83) st) (fun (q : Sl Bigram) (r : Res) => match q with | q96 => ∃ (q97 : ByteArray) (z95 : AV) (z98 : AV) (h93 : Heap), r = (.exit 2, ((Sl.enc sentences_) :: und :: nilS :: z95 :: und :: (Sl.enc a83) :: (sv q97) :: und :: z98 :: und :: und :: und :: (Sl.enc sentences_) :: (iv (((sentences_.getD []).length : Nat) : Int)) :: (iv w7) :: (bv (decide (w7 < (((sentences_.getD []).length : Nat) : Int)))) :: (elp (Sl.enc sentences_) m84 0) :: (Sl.enc a83) :: (Sl.enc a83) :: (iv (((a83.getD []).length : Nat) : Int)) :: AV.top :: AV.top :: AV.top :: AV.top :: AV.top :: AV.top :: AV.top :: AV.top :: AV.top :: AV.top :: AV.top :: AV.top :: AV.top :: und :: und :: und :: und :: und :: und :: und :: und :: und :: und :: und :: und :: und :: und :: und :: und :: und :: und :: und :: und :: und :: und :: und :: und :: und :: und :: und :: und :: und :: und :: und :: und :: und :: und :: und :: und :: und :: []), h93) ∧ Hold B h93 [(z95, obS (q96 : Sl Bigram))]) := by
  refine loop_sim (Rel := fun (st : (Sl Bigram) × ByteArray × Int) tm h89 => match st with | (w88, w91, w92) => ∃ z87, tm = ((Sl.enc sentences_) :: und :: nilS :: z87 :: und :: (Sl.enc a83) :: (sv w91) :: und :: AV.top :: und :: und :: und :: (Sl.enc sentences_) :: (iv (((sentences_.getD []).length : Nat) : Int)) :: (iv w7) :: (bv (decide (w7 < (((sentences_.getD []).length : Nat) : Int)))) :: (elp (Sl.enc sentences_) m84 0) :: (Sl.enc a83) :: (Sl.enc a83) :: (iv (((a83.getD []).length : Nat) : Int)) :: (iv w92) :: AV.top :: AV.top :: AV.top :: AV.top :: AV.top :: AV.top :: AV.top :: AV.top :: AV.top :: AV.top :: AV.top :: AV.top :: und :: und :: und :: und :: und :: und :: und :: und :: und :: und :: und :: und :: und :: und :: und :: und :: und :: und :: und :: und :: und :: und :: und :: und :: und :: und :: und :: und :: und :: und :: und :: und :: und :: und :: und :: und :: und :: []) ∧ Hold B h89 [(z87, obS (w88 : Sl Bigram))]) (fun st tm h89 R => ?_) R
  obtain ⟨w88, w91, w92⟩ := st
  obtain ⟨z87, rfl, O90⟩ := R
  rw [e_lb1_impl_countPairs]
  unfold s1_impl_countPairs
  dsimp only
  refine sim_let (v := bv (decide (w92 < (((a83.getD []).length : Nat) : Int)))) (aBin_lss _ _) ?_
  refine sim_cond (fun c100 => ?_) (fun c100 => ?_)
  · refine sim_get (Tab.enc h89 a83) (fun m102 a101 hi103 hm104 => ?_)
    refine sim_let (v := sv a101) ((Tab.enc h89 a83).ld hm104 false 1 0) ?_
    refine sim_let (v := AV.agg [sv w91, sv a101, iv 1]) (by first | rfl | simp [aBuild, aFill, splice]) ?_
    refine sim_build (A := Bigram) O90 ([(⟨w91, a101, 1⟩ : Bigram)] : List Bigram) rfl (by first | rfl | simp [aFillRows, zrows]) rfl (fun x105 h106 O107 => ?_)
    replace O107 : Hold B h106 [(z87, obS (w88 : Sl Bigram)), (x105, obS ((some ([(⟨w91, a101, 1⟩ : Bigram)] : List Bigram)) : Sl Bigram))] := O107
    refine sim_append (A := Bigram) (s := w88) O107 0 ([(⟨w91, a101, 1⟩ : Bigram)] : List Bigram) rfl (O107.src (A := Bigram) (s := (some ([(⟨w91, a101, 1⟩ : Bigram)] : List Bigram))) 1 rfl) (by decide) (fun x110 h111 O112 => ?_)
    replace O112 : Hold B h111 [(x110, obS ((appS w88 ([(⟨w91, a101, 1⟩ : Bigram)] : List Bigram)) : Sl Bigram)), (x105, obS ((some ([(⟨w91, a101, 1⟩ : Bigram)] : List Bigram)) : Sl Bigram))] := O112
    have O114 : Hold B h111 [(x110, obS ((appS w88 ([(⟨w91, a101, 1⟩ : Bigram)] : List Bigram)) : Sl Bigram))] := O112.sel [0] (by decide) rfl
    refine sim_let (v := iv (wr (w92 + 1))) (aBin_add _ _) ?_
    exact sim_ret ⟨rfl, _, rfl, O114⟩
  · exact sim_ret ⟨nofun, _, _, _, _, rfl, O90⟩
theorem tl0_impl_countPairs (env : Nat → Contract) {B : Base} (he_impl_compareBigrams : env n_impl_compareBigrams = .pure (T2 cmpB)) (he_slices_SortFunc_impl_Bigram_impl_Bigram : env n_slices_SortFunc_impl_Bigram_impl_Bigram = .gen (sortWF leW n_impl_compareBigrams)) (sentences_ : Sl (Sl ByteArray))  {st : (Sl Bigram) × Int} {tm : TM} {h : Heap} (R : (fun (st : (Sl Bigram) × Int) tm h5 => match st with | (w4, w7) => ∃ z3, tm = ((Sl.enc sentences_) :: und :: nilS :: z3 :: und :: AV.top :: AV.top :: und :: AV.top :: und :: und :: und :: (Sl.enc sentences_) :: (iv (((sentences_.getD []).length : Nat) : Int)) :: (iv w7) :: AV.top :: AV.top :: AV.top :: AV.top :: AV.top :: AV.top :: AV.top :: AV.top :: AV.top :: AV.top :: AV.top :: AV.top :: AV.top :: AV.top :: AV.top :: AV.top :: AV.top :: AV.top :: und :: und :: und :: und :: und :: und :: und :: und :: und :: und :: und :: und :: und :: und :: und :: und :: und :: und :: und :: und :: und :: und :: und :: und :: und :: und :: und :: und :: und :: und :: und :: und :: und :: und :: und :: und :: und :: []) ∧ Hold B h5 [(z3, obS (w4 : Sl Bigram))]) st tm h) : Sim (loopP hm0_impl_countPairs xm0_impl_countPairs (lb0_impl_countPairs env) tm h) (loopT (s0_impl_countPairs sentences_) st) (fun (q : Sl Bigram) (r : Res) => match q with | q11 => ∃ (z10 : AV) (z12 : AV) (z13 : AV) (z14 : AV) (h8 : Heap), r = (.exit 0, ((Sl.enc sentences_) :: und :: nilS :: z10 :: und :: z12 :: z13 :: und :: z14 :: und :: und :: und :: (Sl.enc sentences_) :: (iv (((sentences_.getD []).length : Nat) : Int)) :: AV.top :: AV.top :: AV.top :: AV.top :: AV.top :: AV.top :: AV.top :: AV.top :: AV.top :: AV.top :: AV.top :: AV.top :: AV.top :: AV.top :: AV.top :: AV.top :: AV.top :: AV.top :: AV.top :: und :: und :: und :: und :: und :: und :: und :: und :: und :: und :: und :: und :: und :: und :: und :: und :: und :: und :: und :: und :: und :: und :: und :: und :: und :: und :: und :: und :: und :: und :: und :: und :: und :: und :: und :: und :: und :: []), h8) ∧ Hold B h8 [(z10, obS (q11 : Sl Bigram))]) := by
  refine loop_sim (Rel := fun (st : (Sl Bigram) × Int) tm h5 => match st with | (w4, w7) => ∃ z3, tm = ((Sl.enc sentences_) :: und :: nilS :: z3 :: und :: AV.top :: AV.top :: und :: AV.top :: und :: und :: und :: (Sl.enc sentences_) :: (iv (((sentences_.getD []).length : Nat) : Int)) :: (iv w7) :: AV.top :: AV.top :: AV.top :: AV.top :: AV.top :: AV.top :: AV.top :: AV.top :: AV.top :: AV.top :: AV.top :: AV.top :: AV.top :: AV.top :: AV.top :: AV.top :: AV.top :: AV.top :: und :: und :: und :: und :: und :: und :: und :: und :: und :: und :: und :: und :: und :: und :: und :: und :: und :: und :: und :: und :: und :: und :: und :: und :: und :: und :: und :: und :: und :: und :: und :: und :: und :: und :: und :: und :: und :: []) ∧ Hold B h5 [(z3, obS (w4 : Sl Bigram))]) (fun st tm h5 R => ?_) R
  obtain ⟨w4, w7⟩ := st
  obtain ⟨z3, rfl, O6⟩ := R
  rw [e_lb0_impl_countPairs]
  unfold s0_impl_countPairs
  dsimp only
  refine sim_let (v := bv (decide (w7 < (((sentences_.getD []).length : Nat) : Int)))) (aBin_lss _ _) ?_
  refine sim_cond (fun c82 => ?_) (fun c82 => ?_)
  · refine sim_get (Tab.enc h5 sentences_) (fun m84 a83 hi85 hm86 => ?_)
    refine sim_let (v := Sl.enc a83) ((Tab.enc h5 sentences_).ld hm86 false 1 0) ?_
    refine sim_let (v := iv (((a83.getD []).length : Nat) : Int)) (Tab.enc h5 a83).len ?_
    refine sim_bind ((tl1_impl_countPairs env he_impl_compareBigrams he_slices_SortFunc_impl_Bigram_impl_Bigram sentences_ w7 a83 m84) ⟨_, rfl, O6⟩) (fun qq118 r hq => ?_)
    revert hq
    revert qq118
    intro q96 hq
    obtain ⟨q97, z95, z98, h93, rfl, O94⟩ := hq
    rw [e_lk1x2_impl_countPairs]
    refine sim_let (v := iv (wr (w7 + 1))) (aBin_add _ _) ?_
    exact sim_ret ⟨rfl, _, rfl, O94⟩
  · exact sim_ret ⟨nofun, _, _, _, _, _, rfl, O6⟩
theorem ts_impl_countPairs (env : Nat → Contract) (he_impl_compareBigrams : env n_impl_compareBigrams = .pure (T2 cmpB)) (he_slices_SortFunc_impl_Bigram_impl_Bigram : env n_slices_SortFunc_impl_Bigram_impl_Bigram = .gen (sortWF leW n_impl_compareBigrams)) (sentences_ : Sl (Sl ByteArray)) : Sim (denFn Try.prog env n_impl_countPairs [Sl.enc sentences_] []) (t_impl_countPairs sentences_) fun c p => release p.2 depth p.1 = some ((fun c : (Sl Bigram) => rS c) c) := by
  have O := Hold.nil []
  generalize hB : (⟨[], []⟩ : Base) = B at O
  clear hB
  rw [e_impl_countPairs]
  unfold t_impl_countPairs
  refine sim_let (v := iv (((sentences_.getD []).length : Nat) : Int)) (Tab.enc [] sentences_).len ?_
  have O1 : Hold B [] [(nilS, obS ((none : Sl Bigram) : Sl Bigram))] := O.addnil
  refine sim_bind ((tl0_impl_countPairs env he_impl_compareBigrams he_slices_SortFunc_impl_Bigram_impl_Bigram sentences_) ⟨_, rfl, O1⟩) (fun qq121 r hq => ?_)
  revert hq
  revert qq121
  intro q11 hq
  obtain ⟨z10, z12, z13, z14, h8, rfl, O9⟩ := hq
  rw [e_lk0x0_impl_countPairs]
  refine sim_sortW O9 0 rfl he_slices_SortFunc_impl_Bigram_impl_Bigram (fun w15 h16 O17 => ?_)
  replace O17 : Hold B h16 [(z10, obS (w15 : Sl Bigram))] := O17
  refine sim_let (v := iv (((w15.getD []).length : Nat) : Int)) (O17.tab (A := Bigram) (s := w15) 0 rfl).len ?_
  have O18 : Hold B h16 [(z10, obS (w15 : Sl Bigram)), (nilS, obS ((none : Sl Bigram) : Sl Bigram))] := O17.addnil
  refine sim_bind ((tl2_impl_countPairs env he_impl_compareBigrams he_slices_SortFunc_impl_Bigram_impl_Bigram sentences_ z10 z12 z13 z14 w15) ⟨_, rfl, O18⟩) (fun qq81 r hq => ?_)
  revert hq
  revert qq81
  intro q28 hq
  obtain ⟨z27, z29, z30, h25, rfl, O26⟩ := hq
  rw [e_lk2x4_impl_countPairs]
  exact sim_ret (O26.rel (A := Bigram) (s := q28) 1 rfl)
theorem tt_impl_countPairs : PureOK Try.prog n_impl_countPairs (C1 (fun c : (Sl Bigram) => rS c) t_impl_countPairs) := pureC1 (Econs ok_impl_compareBigrams (EconsG gen_slices_SortFunc_impl_Bigram_impl_Bigram E0)) mixed hb_impl_countPairs fun sentences_ => ts_impl_countPairs _ (by simp [envL]) (by simp [envL]) sentences_

def s2_impl_CountModel (scale_ : Int) (c19 : (Sl Bigram)) (q39 : Int) : ((Sl Bigram) × Int) → Option (Sum ((Sl Bigram) × Int) (Sl Bigram)) := fun (w41, w44) =>
  bif decide (w44 < (((c19.getD []).length : Nat) : Int)) then
    obind (getI (w41.getD []) w44) fun a54 =>
    obind (quoI (wr (scale_ * (wr (q39 - a54.cost)))) q39) fun q64 =>
    obind (getI (w41.getD []) w44) fun a65 =>
    some (.inl ((setS w41 w44 (⟨a65.first, a65.second, q64⟩ : Bigram)), wr (w44 + 1)))
  else
    some (.inr w41)
def s1_impl_CountModel (c19 : (Sl Bigram)) : (Int × Int) → Option (Sum (Int × Int) Int) := fun (w35, w36) =>
  bif decide (w36 < (((c19.getD []).length : Nat) : Int)) then
    obind (getI (c19.getD []) w36) fun a76 =>
    some (.inl (max w35 a76.cost, wr (w36 + 1)))
  else
    some (.inr w35)
def s0_impl_CountModel (sentences_ : Sl (Sl ByteArray)) : Int → Option (Sum Int (Sum Unit Int)) := fun w7 =>
  bif decide (w7 < (((sentences_.getD []).length : Nat) : Int)) then
    obind (getI (sentences_.getD []) w7) fun a95 =>
    obind (t_slices_ContainsFunc_string_string t_impl_CountModel_1 a95) fun c99 =>
    bif c99 then
      some (.inr (.inr 7))
    else
      some (.inl (wr (w7 + 1)))
  else
    some (.inr (.inl ()))
def t_impl_CountModel (sentences_ : Sl (Sl ByteArray)) (scale_ : Int) (other_ : Int) : Option (Model × Int) :=
  obind (loopT (s0_impl_CountModel sentences_) 0) fun qq107 => match qq107 with
  | (.inl _) =>
      obind (some ((fun y => within y 0 1000000) scale_)) fun c12 =>
      obind (bif !c12 then some false else (obind (some ((fun y => within y 0 1000000) other_)) fun c14 => some (!c14))) fun c15 =>
      bif (bif !c12 then true else c15) then
        some ((⟨0, (none : Sl Bigram)⟩ : Model), 2)
      else
        obind (t_impl_countPairs sentences_) fun c19 =>
        bif decide (60 < (((c19.getD []).length : Nat) : Int)) then
          some ((⟨0, (none : Sl Bigram)⟩ : Model), 5)
        else
          obind (loopT (s1_impl_CountModel c19) (0, 0)) fun q39 =>
          obind (loopT (s2_impl_CountModel scale_ c19 q39) (c19, 0)) fun q47 =>
          some ((⟨other_, q47⟩ : Model), 0)
  | (.inr q92) =>
      some ((⟨0, (none : Sl Bigram)⟩ : Model), q92)

theorem tl2_impl_CountModel (env : Nat → Contract) {B : Base} (he_impl_countPairs : env n_impl_countPairs = .pure (C1 (fun c : (Sl Bigram) => rS c) t_impl_countPairs)) (he_impl_isCost : env n_impl_isCost = .pure (T1 (fun y => within y 0 1000000))) (he_slices_ContainsFunc_string_string : env n_slices_ContainsFunc_string_string = .pure (C2 (fun c : Bool => enc c) (fun (q : Sl ByteArray) (k : Clo0 n_impl_CountModel_1) => t_slices_ContainsFunc_string_string ((fun _ : Clo0 n_impl_CountModel_1 => t_impl_CountModel_1) k) q))) (sentences_ : Sl (Sl ByteArray)) (scale_ : Int) (other_ : Int) (o1 : Nat) (z10 : AV) (z11 : AV) (c12 : Bool) (c15 : Bool) (c19 : (Sl Bigram)) (x21 : AV) (o24 : Nat) (q39 : Int) (z40 : AV)  {st : (Sl Bigram) × Int} {tm : TM} {h : Heap} (R : (fun (st : (Sl Bigram) × Int) tm h42 => match st with | (w41, w44) => tm = ((Sl.enc sentences_) :: (iv scale_) :: (iv other_) :: und :: und :: und :: (AV.ptr o1 1 0 0) :: z10 :: und :: z11 :: (AV.ptr o24 1 0 0) :: (iv q39) :: und :: z40 :: AV.top :: AV.top :: (Sl.enc sentences_) :: (iv (((sentences_.getD []).length : Nat) : Int)) :: AV.top :: AV.top :: AV.top :: AV.top :: AV.top :: AV.top :: AV.top :: AV.top :: (iv scale_) :: (bv c12) :: (bv (!c12)) :: (bv (!c12)) :: AV.top :: AV.top :: (cond (!c12) und (bv c15)) :: (bv (bif !c12 then true else c15)) :: und :: (iv other_) :: (Sl.enc sentences_) :: x21 :: (AV.agg [iv other_, x21]) :: (AV.ptr o24 1 0 1) :: x21 :: (iv (((c19.getD []).length : Nat) : Int)) :: (bv (decide (60 < (((c19.getD []).length : Nat) : Int)))) :: und :: (AV.ptr o24 1 0 1) :: x21 :: (iv (((c19.getD []).length : Nat) : Int)) :: AV.top :: AV.top :: AV.top :: AV.top :: AV.top :: AV.top :: AV.top :: AV.top :: AV.top :: (AV.ptr o24 1 0 1) :: x21 :: (iv (((c19.getD []).length : Nat) : Int)) :: (iv w44) :: AV.top :: AV.top :: AV.top :: AV.top :: AV.top :: AV.top :: AV.top :: AV.top :: AV.top :: AV.top :: AV.top :: AV.top :: AV.top :: AV.top :: AV.top :: AV.top :: AV.top :: AV.top :: und :: []) ∧ Hold B h42 [(AV.ptr o1 1 0 0, .pt 2 [iv 0, nilS]), (x21, obS (w41 : Sl Bigram)), (AV.ptr o24 1 0 0, .pt 2 [iv other_, x21])]) st tm h) : Sim (loopP hm2_impl_CountModel xm2_impl_CountModel (lb2_impl_CountModel env) tm h) (loopT (s2_impl_CountModel scale_ c19 q39) st) (fun (q : Sl Bigram) (r : Res) => match q with | q47 => ∃ (z48 : AV) (z49 : AV) (h45 : Heap), r = (.exit 4, ((Sl.enc sentences_) :: (iv scale_) :: (iv other_) :: und :: und :: und :: (AV.ptr o1 1 0 0) :: z10 :: und :: z11 :: (AV.ptr o24 1 0 0) :: (iv q39) :: und :: z40 :: z48 :: z49 :: (Sl.enc sentences_) :: (iv (((sentences_.getD []).length : Nat) : Int)) :: AV.top :: AV.top :: AV.top :: AV.top :: AV.top :: AV.top :: AV.top :: AV.top :: (iv scale_) :: (bv c12) :: (bv (!c12)) :: (bv (!c12)) :: AV.top :: AV.top :: (cond (!c12) und (bv c15)) :: (bv (bif !c12 then true else c15)) :: und :: (iv other_) :: (Sl.enc sentences_) :: x21 :: (AV.agg [iv other_, x21]) :: (AV.ptr o24 1 0 1) :: x21 :: (iv (((c19.getD []).length : Nat) : Int)) :: (bv (decide (60 < (((c19.getD []).length : Nat) : Int)))) :: und :: (AV.ptr o24 1 0 1) :: x21 :: (iv (((c19.getD []).length : Nat) : Int)) :: AV.top :: AV.top :: AV.top :: AV.top :: AV.top :: AV.top :: AV.top :: AV.top :: AV.top :: (AV.ptr o24 1 0 1) :: x21 :: (iv (((c19.getD []).length : Nat) : Int)) :: AV.top :: AV.top :: AV.top :: AV.top :: AV.top :: AV.top :: AV.top :: AV.top :: AV.top :: AV.top :: AV.top :: AV.top :: AV.top :: AV.top :: AV.top :: AV.top :: AV.top :: AV.top :: AV.top :: und :: []), h45) ∧ Hold B h45 [(AV.ptr o1 1 0 0, .pt 2 [iv 0, nilS]), (x21, obS (q47 : Sl Bigram)), (AV.ptr o24 1 0 0, .pt 2 [iv other_, x21])]) := by
  refine loop_sim (Rel := fun (st : (Sl Bigram) × Int) tm h42 => match st with | (w41, w44) => tm = ((Sl.enc sentences_) :: (iv scale_) :: (iv other_) :: und :: und :: und :: (AV.ptr o1 1 0 0) :: z10 :: und :: z11 :: (AV.ptr o24 1 0 0) :: (iv q39) :: und :: z40 :: AV.top :: AV.top :: (Sl.enc sentences_) :: (iv (((sentences_.getD []).length : Nat) : Int)) :: AV.top :: AV.top :: AV.top :: AV.top :: AV.top :: AV.top :: AV.top :: AV.top :: (iv scale_) :: (bv c12) :: (bv (!c12)) :: (bv (!c12)) :: AV.top :: AV.top :: (cond (!c12) und (bv c15)) :: (bv (bif !c12 then true else c15)) :: und :: (iv other_) :: (Sl.enc sentences_) :: x21 :: (AV.agg [iv other_, x21]) :: (AV.ptr o24 1 0 1) :: x21 :: (iv (((c19.getD []).length : Nat) : Int)) :: (bv (decide (60 < (((c19.getD []).length : Nat) : Int)))) :: und :: (AV.ptr o24 1 0 1) :: x21 :: (iv (((c19.getD []).length : Nat) : Int)) :: AV.top :: AV.top :: AV.top :: AV.top :: AV.top :: AV.top :: AV.top :: AV.top :: AV.top :: (AV.ptr o24 1 0 1) :: x21 :: (iv (((c19.getD []).length : Nat) : Int)) :: (iv w44) :: AV.top :: AV.top :: AV.top :: AV.top :: AV.top :: AV.top :: AV.top :: AV.top :: AV.top :: AV.top :: AV.top :: AV.top :: AV.top :: AV.top :: AV.top :: AV.top :: AV.top :: AV.top :: und :: []) ∧ Hold B h42 [(AV.ptr o1 1 0 0, .pt 2 [iv 0, nilS]), (x21, obS (w41 : Sl Bigram)), (AV.ptr o24 1 0 0, .pt 2 [iv other_, x21])]) (fun st tm h42 R => ?_) R
  obtain ⟨w41, w44⟩ := st
  obtain ⟨rfl, O43⟩ := R
  rw [e_lb2_impl_CountModel]
  unfold s2_impl_CountModel
  dsimp only
  refine sim_let (v := bv (decide (w44 < (((c19.getD []).length : Nat) : Int)))) (aBin_lss _ _) ?_
  refine sim_cond (fun c53 => ?_) (fun c53 => ?_)
  · refine sim_get (O43.tab (A := Bigram) (s := w41) 1 rfl) (fun m55 a54 hi56 hm57 => ?_)
    refine sim_let (v := AV.agg [sv a54.first, sv a54.second, iv a54.cost]) ((O43.tab (A := Bigram) (s := w41) 1 rfl).ld hm57 true 3 0) ?_
    refine sim_box O43 (cs := [sv (⟨#[]⟩ : ByteArray), sv (⟨#[]⟩ : ByteArray), iv 0]) (by first | rfl | simp) (fun o58 h59 O60 => ?_)
    replace O60 : Hold B h59 [(AV.ptr o1 1 0 0, .pt 2 [iv 0, nilS]), (x21, obS (w41 : Sl Bigram)), (AV.ptr o24 1 0 0, .pt 2 [iv other_, x21]), (AV.ptr o58 1 0 0, .pt 3 [sv (⟨#[]⟩ : ByteArray), sv (⟨#[]⟩ : ByteArray), iv 0])] := O60
    refine sim_store O60 3 (cs' := [sv a54.first, sv a54.second, iv a54.cost]) rfl (by first | rfl | simp) (by simp) (by first | rfl | simp) (by first | rfl | simp [splice]) (fun h62 O63 => ?_)
    replace O63 : Hold B h62 [(AV.ptr o1 1 0 0, .pt 2 [iv 0, nilS]), (x21, obS (w41 : Sl Bigram)), (AV.ptr o24 1 0 0, .pt 2 [iv other_, x21]), (AV.ptr o58 1 0 0, .pt 3 [sv a54.first, sv a54.second, iv a54.cost])] := O63
    refine sim_let (v := AV.ptr o24 1 0 1) rfl ?_
    refine sim_let (v := x21) (O63.ld 2 rfl false 1 1) ?_
    refine sim_let (v := AV.ptr o58 1 0 2) rfl ?_
    refine sim_let (v := iv a54.cost) (O63.ld 3 rfl false 1 2) ?_
    refine sim_let (v := iv (wr (q39 - a54.cost))) (aBin_sub _ _) ?_
    refine sim_let (v := iv (wr (scale_ * (wr (q39 - a54.cost))))) (aBin_mul _ _) ?_
    refine sim_quo (fun q64 => ?_)
    refine sim_get (O63.tab (A := Bigram) (s := w41) 1 rfl) (fun m66 a65 hi67 hm68 => ?_)
    refine sim_let (v := elp x21 m66 2) ((O63.tab (A := Bigram) (s := w41) 1 rfl).fld _ _ _) ?_
    refine sim_set (A := Bigram) O63 1 (⟨a65.first, a65.second, q64⟩ : Bigram) rfl hi67 hm68 rfl (by simp) (by first | rfl | simp) (by first | rfl | simp [splice]) (fun h69 O70 => ?_)
    replace O70 : Hold B h69 [(AV.ptr o1 1 0 0, .pt 2 [iv 0, nilS]), (x21, obS ((setS w41 w44 (⟨a65.first, a65.second, q64⟩ : Bigram)) : Sl Bigram)), (AV.ptr o24 1 0 0, .pt 2 [iv other_, x21]), (AV.ptr o58 1 0 0, .pt 3 [sv a54.first, sv a54.second, iv a54.cost])] := O70
    refine sim_let (v := iv (wr (w44 + 1))) (aBin_add _ _) ?_
    have O71 : Hold B h69 [(AV.ptr o1 1 0 0, .pt 2 [iv 0, nilS]), (x21, obS ((setS w41 w44 (⟨a65.first, a65.second, q64⟩ : Bigram)) : Sl Bigram)), (AV.ptr o24 1 0 0, .pt 2 [iv other_, x21])] := O70.sel [0, 1, 2] (by decide) rfl
    exact sim_ret ⟨rfl, rfl, O71⟩
  · exact sim_ret ⟨nofun, _, _, _, rfl, O43⟩
theorem tl1_impl_CountModel (env : Nat → Contract) {B : Base} (he_impl_countPairs : env n_impl_countPairs = .pure (C1 (fun c : (Sl Bigram) => rS c) t_impl_countPairs)) (he_impl_isCost : env n_impl_isCost = .pure (T1 (fun y => within y 0 1000000))) (he_slices_ContainsFunc_string_string : env n_slices_ContainsFunc_string_string = .pure (C2 (fun c : Bool => enc c) (fun (q : Sl ByteArray) (k : Clo0 n_impl_CountModel_1) => t_slices_ContainsFunc_string_string ((fun _ : Clo0 n_impl_CountModel_1 => t_impl_CountModel_1) k) q))) (sentences_ : Sl (Sl ByteArray)) (scale_ : Int) (other_ : Int) (o1 : Nat) (z10 : AV) (z11 : AV) (c12 : Bool) (c15 : Bool) (c19 : (Sl Bigram)) (x21 : AV) (o24 : Nat)  {st : Int × Int} {tm : TM} {h : Heap} (R : (fun (st : Int × Int) tm h33 => match st with | (w35, w36) => tm = ((Sl.enc sentences_) :: (iv scale_) :: (iv other_) :: und :: und :: und :: (AV.ptr o1 1 0 0) :: z10 :: und :: z11 :: (AV.ptr o24 1 0 0) :: (iv w35) :: und :: AV.top :: und :: und :: (Sl.enc sentences_) :: (iv (((sentences_.getD []).length : Nat) : Int)) :: AV.top :: AV.top :: AV.top :: AV.top :: AV.top :: AV.top :: AV.top :: AV.top :: (iv scale_) :: (bv c12) :: (bv (!c12)) :: (bv (!c12)) :: AV.top :: AV.top :: (cond (!c12) und (bv c15)) :: (bv (bif !c12 then true else c15)) :: und :: (iv other_) :: (Sl.enc sentences_) :: x21 :: (AV.agg [iv other_, x21]) :: (AV.ptr o24 1 0 1) :: x21 :: (iv (((c19.getD []).length : Nat) : Int)) :: (bv (decide (60 < (((c19.getD []).length : Nat) : Int)))) :: und :: (AV.ptr o24 1 0 1) :: x21 :: (iv (((c19.getD []).length : Nat) : Int)) :: (iv w36) :: AV.top :: AV.top :: AV.top :: AV.top :: AV.top :: AV.top :: AV.top :: AV.top :: und :: und :: und :: und :: und :: und :: und :: und :: und :: und :: und :: und :: und :: und :: und :: und :: und :: und :: und :: und :: und :: und :: und :: []) ∧ Hold B h33 [(AV.ptr o1 1 0 0, .pt 2 [iv 0, nilS]), (x21, obS (c19 : Sl Bigram)), (AV.ptr o24 1 0 0, .pt 2 [iv other_, x21])]) st tm h) : Sim (loopP hm1_impl_CountModel xm1_impl_CountModel (lb1_impl_CountModel env) tm h) (loopT (s1_impl_CountModel c19) st) (fun (q : Int) (r : Res) => match q with | q39 => ∃ (z40 : AV) (h37 : Heap), r = (.exit 2, ((Sl.enc sentences_) :: (iv scale_) :: (iv other_) :: und :: und :: und :: (AV.ptr o1 1 0 0) :: z10 :: und :: z11 :: (AV.ptr o24 1 0 0) :: (iv q39) :: und :: z40 :: und :: und :: (Sl.enc sentences_) :: (iv (((sentences_.getD []).length : Nat) : Int)) :: AV.top :: AV.top :: AV.top :: AV.top :: AV.top :: AV.top :: AV.top :: AV.top :: (iv scale_) :: (bv c12) :: (bv (!c12)) :: (bv (!c12)) :: AV.top :: AV.top :: (cond (!c12) und (bv c15)) :: (bv (bif !c12 then true else c15)) :: und :: (iv other_) :: (Sl.enc sentences_) :: x21 :: (AV.agg [iv other_, x21]) :: (AV.ptr o24 1 0 1) :: x21 :: (iv (((c19.getD []).length : Nat) : Int)) :: (bv (decide (60 < (((c19.getD []).length : Nat) : Int)))) :: und :: (AV.ptr o24 1 0 1) :: x21 :: (iv (((c19.getD []).length : Nat) : Int)) :: AV.top :: AV.top :: AV.top :: AV.top :: AV.top :: AV.top :: AV.top :: AV.top :: AV.top :: und :: und :: und :: und :: und :: und :: und :: und :: und :: und :: und :: und :: und :: und :: und :: und :: und :: und :: und :: und :: und :: und :: und :: []), h37) ∧ Hold B h37 [(AV.ptr o1 1 0 0, .pt 2 [iv 0, nilS]), (x21, obS (c19 : Sl Bigram)), (AV.ptr o24 1 0 0, .pt 2 [iv other_, x21])]) := by
  refine loop_sim (Rel := fun (st : Int × Int) tm h33 => match st with | (w35, w36) => tm = ((Sl.enc sentences_) :: (iv scale_) :: (iv other_) :: und :: und :: und :: (AV.ptr o1 1 0 0) :: z10 :: und :: z11 :: (AV.ptr o24 1 0 0) :: (iv w35) :: und :: AV.top :: und :: und :: (Sl.enc sentences_) :: (iv (((sentences_.getD []).length : Nat) : Int)) :: AV.top :: AV.top :: AV.top :: AV.top :: AV.top :: AV.top :: AV.top :: AV.top :: (iv scale_) :: (bv c12) :: (bv (!c12)) :: (bv (!c12)) :: AV.top :: AV.top :: (cond (!c12) und (bv c15)) :: (bv (bif !c12 then true else c15)) :: und :: (iv other_) :: (Sl.enc sentences_) :: x21 :: (AV.agg [iv other_, x21]) :: (AV.ptr o24 1 0 1) :: x21 :: (iv (((c19.getD []).length : Nat) : Int)) :: (bv (decide (60 < (((c19.getD []).length : Nat) : Int)))) :: und :: (AV.ptr o24 1 0 1) :: x21 :: (iv (((c19.getD []).length : Nat) : Int)) :: (iv w36) :: AV.top :: AV.top :: AV.top :: AV.top :: AV.top :: AV.top :: AV.top :: AV.top :: und :: und :: und :: und :: und :: und :: und :: und :: und :: und :: und :: und :: und :: und :: und :: und :: und :: und :: und :: und :: und :: und :: und :: []) ∧ Hold B h33 [(AV.ptr o1 1 0 0, .pt 2 [iv 0, nilS]), (x21, obS (c19 : Sl Bigram)), (AV.ptr o24 1 0 0, .pt 2 [iv other_, x21])]) (fun st tm h33 R => ?_) R
  obtain ⟨w35, w36⟩ := st
  obtain ⟨rfl, O34⟩ := R
  rw [e_lb1_impl_CountModel]
  unfold s1_impl_CountModel
  dsimp only
  refine sim_let (v := bv (decide (w36 < (((c19.getD []).length : Nat) : Int)))) (aBin_lss _ _) ?_
  refine sim_cond (fun c75 => ?_) (fun c75 => ?_)
  · refine sim_get (O34.tab (A := Bigram) (s := c19) 1 rfl) (fun m77 a76 hi78 hm79 => ?_)
    refine sim_let (v := AV.agg [sv a76.first, sv a76.second, iv a76.cost]) ((O34.tab (A := Bigram) (s := c19) 1 rfl).ld hm79 true 3 0) ?_
    refine sim_box O34 (cs := [sv (⟨#[]⟩ : ByteArray), sv (⟨#[]⟩ : ByteArray), iv 0]) (by first | rfl | simp) (fun o80 h81 O82 => ?_)
    replace O82 : Hold B h81 [(AV.ptr o1 1 0 0, .pt 2 [iv 0, nilS]), (x21, obS (c19 : Sl Bigram)), (AV.ptr o24 1 0 0, .pt 2 [iv other_, x21]), (AV.ptr o80 1 0 0, .pt 3 [sv (⟨#[]⟩ : ByteArray), sv (⟨#[]⟩ : ByteArray), iv 0])] := O82
    refine sim_store O82 3 (cs' := [sv a76.first, sv a76.second, iv a76.cost]) rfl (by first | rfl | simp) (by simp) (by first | rfl | simp) (by first | rfl | simp [splice]) (fun h84 O85 => ?_)
    replace O85 : Hold B h84 [(AV.ptr o1 1 0 0, .pt 2 [iv 0, nilS]), (x21, obS (c19 : Sl Bigram)), (AV.ptr o24 1 0 0, .pt 2 [iv other_, x21]), (AV.ptr o80 1 0 0, .pt 3 [sv a76.first, sv a76.second, iv a76.cost])] := O85
    refine sim_let (v := AV.ptr o80 1 0 2) rfl ?_
    refine sim_let (v := iv a76.cost) (O85.ld 3 rfl false 1 2) ?_
    refine sim_let (v := iv (max w35 a76.cost)) (aFold_max _ _) ?_
    refine sim_let (v := iv (wr (w36 + 1))) (aBin_add _ _) ?_
    have O86 : Hold B h84 [(AV.ptr o1 1 0 0, .pt 2 [iv 0, nilS]), (x21, obS (c19 : Sl Bigram)), (AV.ptr o24 1 0 0, .pt 2 [iv other_, x21])] := O85.sel [0, 1, 2] (by decide) rfl
    exact sim_ret ⟨rfl, rfl, O86⟩
  · exact sim_ret ⟨nofun, _, _, rfl, O34⟩
theorem tl0_impl_CountModel (env : Nat → Contract) {B : Base} (he_impl_countPairs : env n_impl_countPairs = .pure (C1 (fun c : (Sl Bigram) => rS c) t_impl_countPairs)) (he_impl_isCost : env n_impl_isCost = .pure (T1 (fun y => within y 0 1000000))) (he_slices_ContainsFunc_string_string : env n_slices_ContainsFunc_string_string = .pure (C2 (fun c : Bool => enc c) (fun (q : Sl ByteArray) (k : Clo0 n_impl_CountModel_1) => t_slices_ContainsFunc_string_string ((fun _ : Clo0 n_impl_CountModel_1 => t_impl_CountModel_1) k) q))) (sentences_ : Sl (Sl ByteArray)) (scale_ : Int) (other_ : Int) (o1 : Nat)  {st : Int} {tm : TM} {h : Heap} (R : (fun (st : Int) tm h5 => match st with | w7 => tm = ((Sl.enc sentences_) :: (iv scale_) :: (iv other_) :: und :: und :: und :: (AV.ptr o1 1 0 0) :: AV.top :: und :: AV.top :: und :: und :: und :: und :: und :: und :: (Sl.enc sentences_) :: (iv (((sentences_.getD []).length : Nat) : Int)) :: (iv w7) :: AV.top :: AV.top :: AV.top :: AV.top :: AV.top :: AV.top :: AV.top :: und :: und :: und :: und :: und :: und :: und :: und :: und :: und :: und :: und :: und :: und :: und :: und :: und :: und :: und :: und :: und :: und :: und :: und :: und :: und :: und :: und :: und :: und :: und :: und :: und :: und :: und :: und :: und :: und :: und :: und :: und :: und :: und :: und :: und :: und :: und :: und :: und :: und :: und :: und :: und :: []) ∧ Hold B h5 [(AV.ptr o1 1 0 0, .pt 2 [iv 0, nilS])]) st tm h) : Sim (loopP hm0_impl_CountModel xm0_impl_CountModel (lb0_impl_CountModel env) tm h) (loopT (s0_impl_CountModel sentences_) st) (fun (q : Sum Unit Int) (r : Res) => match q with | .inl _ => ∃ (z10 : AV) (z11 : AV) (h8 : Heap), r = (.exit 0, ((Sl.enc sentences_) :: (iv scale_) :: (iv other_) :: und :: und :: und :: (AV.ptr o1 1 0 0) :: z10 :: und :: z11 :: und :: und :: und :: und :: und :: und :: (Sl.enc sentences_) :: (iv (((sentences_.getD []).length : Nat) : Int)) :: AV.top :: AV.top :: AV.top :: AV.top :: AV.top :: AV.top :: AV.top :: AV.top :: und :: und :: und :: und :: und :: und :: und :: und :: und :: und :: und :: und :: und :: und :: und :: und :: und :: und :: und :: und :: und :: und :: und :: und :: und :: und :: und :: und :: und :: und :: und :: und :: und :: und :: und :: und :: und :: und :: und :: und :: und :: und :: und :: und :: und :: und :: und :: und :: und :: und :: und :: und :: und :: []), h8) ∧ Hold B h8 [(AV.ptr o1 1 0 0, .pt 2 [iv 0, nilS])] | .inr q92 => ∃ (q93 : Sl ByteArray) (h90 : Heap), r = (.ret, ((Sl.enc sentences_) :: (iv scale_) :: (iv other_) :: und :: und :: und :: (AV.ptr o1 1 0 0) :: (iv q92) :: und :: (Sl.enc q93) :: und :: und :: und :: und :: und :: und :: (Sl.enc sentences_) :: (iv (((sentences_.getD []).length : Nat) : Int)) :: AV.top :: AV.top :: AV.top :: AV.top :: AV.top :: AV.top :: AV.top :: AV.top :: und :: und :: und :: und :: und :: und :: und :: und :: und :: und :: und :: und :: und :: und :: und :: und :: und :: und :: und :: und :: und :: und :: und :: und :: und :: und :: und :: und :: und :: und :: und :: und :: und :: und :: und :: und :: und :: und :: und :: und :: und :: und :: und :: und :: und :: und :: und :: und :: und :: und :: und :: und :: und :: []), h90) ∧ Hold B h90 [(AV.ptr o1 1 0 0, .pt 2 [iv 0, nilS])]) := by
  refine loop_sim (Rel := fun (st : Int) tm h5 => match st with | w7 => tm = ((Sl.enc sentences_) :: (iv scale_) :: (iv other_) :: und :: und :: und :: (AV.ptr o1 1 0 0) :: AV.top :: und :: AV.top :: und :: und :: und :: und :: und :: und :: (Sl.enc sentences_) :: (iv (((sentences_.getD []).length : Nat) : Int)) :: (iv w7) :: AV.top :: AV.top :: AV.top :: AV.top :: AV.top :: AV.top :: AV.top :: und :: und :: und :: und :: und :: und :: und :: und :: und :: und :: und :: und :: und :: und :: und :: und :: und :: und :: und :: und :: und :: und :: und :: und :: und :: und :: und :: und :: und :: und :: und :: und :: und :: und :: und :: und :: und :: und :: und :: und :: und :: und :: und :: und :: und :: und :: und :: und :: und :: und :: und :: und :: und :: []) ∧ Hold B h5 [(AV.ptr o1 1 0 0, .pt 2 [iv 0, nilS])]) (fun w7 tm h5 R => ?_) R
  obtain ⟨rfl, O6⟩ := R
  rw [e_lb0_impl_CountModel]
  unfold s0_impl_CountModel
  dsimp only
  refine sim_let (v := bv (decide (w7 < (((sentences_.getD []).length : Nat) : Int)))) (aBin_lss _ _) ?_
  refine sim_cond (fun c94 => ?_) (fun c94 => ?_)
  · refine sim_get (Tab.enc h5 sentences_) (fun m96 a95 hi97 hm98 => ?_)
    refine sim_let (v := Sl.enc a95) ((Tab.enc h5 sentences_).ld hm98 false 1 0) ?_
    refine sim_call2 (t := fun (q : Sl ByteArray) (k : Clo0 n_impl_CountModel_1) => t_slices_ContainsFunc_string_string ((fun _ : Clo0 n_impl_CountModel_1 => t_impl_CountModel_1) k) q) he_slices_ContainsFunc_string_string (snapD_enc _ _) (snapD_clo0 _ _) (fun c99 => ?_)
    refine sim_let2 (hand_plain (by rfl) _ _) ?_
    refine sim_cond (fun c100 => ?_) (fun c100 => ?_)
    · refine sim_let (v := AV.agg [iv 0, nilS]) (by first | rfl | simp [aBuild, aFill, splice]) ?_
      refine sim_store O6 0 (cs' := [iv 0, nilS]) rfl (by first | rfl | simp) (by simp) (by first | rfl | simp) (by first | rfl | simp [splice]) (fun h101 O102 => ?_)
      replace O102 : Hold B h101 [(AV.ptr o1 1 0 0, .pt 2 [iv 0, nilS])] := O102
      exact sim_ret ⟨nofun, _, _, rfl, O102⟩
    · refine sim_let (v := iv (wr (w7 + 1))) (aBin_add _ _) ?_
      exact sim_ret ⟨rfl, rfl, O6⟩
  · exact sim_ret ⟨nofun, _, _, _, rfl, O6⟩
theorem ts_impl_CountModel (env : Nat → Contract) (he_impl_countPairs : env n_impl_countPairs = .pure (C1 (fun c : (Sl Bigram) => rS c) t_impl_countPairs)) (he_impl_isCost : env n_impl_isCost = .pure (T1 (fun y => within y 0 1000000))) (he_slices_ContainsFunc_string_string : env n_slices_ContainsFunc_string_string = .pure (C2 (fun c : Bool => enc c) (fun (q : Sl ByteArray) (k : Clo0 n_impl_CountModel_1) => t_slices_ContainsFunc_string_string ((fun _ : Clo0 n_impl_CountModel_1 => t_impl_CountModel_1) k) q))) (sentences_ : Sl (Sl ByteArray)) (scale_ : Int) (other_ : Int) : Sim (denFn Try.prog env n_impl_CountModel [Sl.enc sentences_, iv scale_, iv other_] []) (t_impl_CountModel sentences_ scale_ other_) fun c p => release p.2 depth p.1 = some ((fun c : Model × Int => AV.tup [AV.agg [iv c.1.default, rS c.1.bigrams], enc c.2]) c) := by
  have O := Hold.nil []
  generalize hB : (⟨[], []⟩ : Base) = B at O
  clear hB
  rw [e_impl_CountModel]
  unfold t_impl_CountModel
  refine sim_box O (cs := [iv 0, nilS]) (by first | rfl | simp) (fun o1 h2 O3 => ?_)
  replace O3 : Hold B h2 [(AV.ptr o1 1 0 0, .pt 2 [iv 0, nilS])] := O3
  refine sim_let (v := iv (((sentences_.getD []).length : Nat) : Int)) (Tab.enc h2 sentences_).len ?_
  refine sim_bind ((tl0_impl_CountModel env he_impl_countPairs he_impl_isCost he_slices_ContainsFunc_string_string sentences_ scale_ other_ o1) ⟨rfl, O3⟩) (fun qq107 r hq => ?_)
  rcases qq107 with _ | q92
  · obtain ⟨z10, z11, h8, rfl, O9⟩ := hq
    rw [e_lk0x0_impl_CountModel]
    refine sim_callV1 (t := (fun y => within y 0 1000000)) he_impl_isCost (snapD_int _ _) (fun c12 => ?_)
    refine sim_let (v := bv (!c12)) (aUn_not _) ?_
    refine sim_guardF (e := bv) (fun hb13 => ?_) (fun c15 => ?_)
    · refine sim_callV1 (t := (fun y => within y 0 1000000)) he_impl_isCost (snapD_int _ _) (fun c14 => ?_)
      refine sim_let (v := bv (!c14)) (aUn_not _) ?_
      exact sim_ret rfl
    · refine sim_let (v := bv (bif !c12 then true else c15)) (pick_b' _ _ _) ?_
      refine sim_cond (fun c16 => ?_) (fun c16 => ?_)
      · refine sim_let (v := AV.agg [iv 0, nilS]) (by first | rfl | simp [aBuild, aFill, splice]) ?_
        refine sim_store O9 0 (cs' := [iv 0, nilS]) rfl (by first | rfl | simp) (by simp) (by first | rfl | simp) (by first | rfl | simp [splice]) (fun h17 O18 => ?_)
        replace O18 : Hold B h17 [(AV.ptr o1 1 0 0, .pt 2 [iv 0, nilS])] := O18
        refine sim_retL (resL_c (v := AV.agg [iv 0, nilS]) (O18.ld 0 rfl true 2 0) (resL_v (v := iv 2) (resL_nil _))) ?_
        dsimp only [pack]
        exact sim_ret (release_plain (by rfl) _)
      · refine sim_call1 he_impl_countPairs (snapD_enc _ _) (fun c19 => ?_)
        refine sim_hand (A := Bigram) O9 (fun x21 h22 O23 => ?_)
        replace O23 : Hold B h22 [(AV.ptr o1 1 0 0, .pt 2 [iv 0, nilS]), (x21, obS (c19 : Sl Bigram))] := O23
        refine sim_let (v := AV.agg [iv other_, x21]) (by first | rfl | simp [aBuild, aFill, splice, (O23.one (A := Bigram) (s := c19) 1 rfl).1, (O23.one (A := Bigram) (s := c19) 1 rfl).2]) ?_
        refine sim_box O23 (cs := [iv 0, nilS]) (by first | rfl | simp) (fun o24 h25 O26 => ?_)
        replace O26 : Hold B h25 [(AV.ptr o1 1 0 0, .pt 2 [iv 0, nilS]), (x21, obS (c19 : Sl Bigram)), (AV.ptr o24 1 0 0, .pt 2 [iv 0, nilS])] := O26
        refine sim_store O26 2 (cs' := [iv other_, x21]) rfl (by first | rfl | simp [(O26.one (A := Bigram) (s := c19) 1 rfl).1, (O26.one (A := Bigram) (s := c19) 1 rfl).2]) (by simp) (by first | rfl | simp [(O26.one (A := Bigram) (s := c19) 1 rfl).1, (O26.one (A := Bigram) (s := c19) 1 rfl).2]) (by first | rfl | simp [splice, (O26.one (A := Bigram) (s := c19) 1 rfl).1, (O26.one (A := Bigram) (s := c19) 1 rfl).2]) (fun h28 O29 => ?_)
        replace O29 : Hold B h28 [(AV.ptr o1 1 0 0, .pt 2 [iv 0, nilS]), (x21, obS (c19 : Sl Bigram)), (AV.ptr o24 1 0 0, .pt 2 [iv other_, x21])] := O29
        refine sim_let (v := AV.ptr o24 1 0 1) rfl ?_
        refine sim_let (v := x21) (O29.ld 2 rfl false 1 1) ?_
        refine sim_let (v := iv (((c19.getD []).length : Nat) : Int)) (O29.tab (A := Bigram) (s := c19) 1 rfl).len ?_
        refine sim_let (v := bv (decide (60 < (((c19.getD []).length : Nat) : Int)))) (aBin_gtr _ _) ?_
        refine sim_cond (fun c30 => ?_) (fun c30 => ?_)
        · refine sim_let (v := AV.agg [iv 0, nilS]) (by first | rfl | simp [aBuild, aFill, splice]) ?_
          refine sim_store O29 0 (cs' := [iv 0, nilS]) rfl (by first | rfl | simp) (by simp) (by first | rfl | simp) (by first | rfl | simp [splice]) (fun h31 O32 => ?_)
          replace O32 : Hold B h31 [(AV.ptr o1 1 0 0, .pt 2 [iv 0, nilS]), (x21, obS (c19 : Sl Bigram)), (AV.ptr o24 1 0 0, .pt 2 [iv other_, x21])] := O32
          refine sim_retL (resL_c (v := AV.agg [iv 0, nilS]) (O32.ld 0 rfl true 2 0) (resL_v (v := iv 5) (resL_nil _))) ?_
          dsimp only [pack]
          exact sim_ret (release_plain (by rfl) _)
        · refine sim_let (v := AV.ptr o24 1 0 1) rfl ?_
          refine sim_let (v := x21) (O29.ld 2 rfl false 1 1) ?_
          refine sim_let (v := iv (((c19.getD []).length : Nat) : Int)) (O29.tab (A := Bigram) (s := c19) 1 rfl).len ?_
          refine sim_bind ((tl1_impl_CountModel env he_impl_countPairs he_impl_isCost he_slices_ContainsFunc_string_string sentences_ scale_ other_ o1 z10 z11 c12 c15 c19 x21 o24) ⟨rfl, O29⟩) (fun qq89 r hq => ?_)
          revert hq
          revert qq89
          intro q39 hq
          obtain ⟨z40, h37, rfl, O38⟩ := hq
          rw [e_lk1x2_impl_CountModel]
          refine sim_let (v := AV.ptr o24 1 0 1) rfl ?_
          refine sim_let (v := x21) (O38.ld 2 rfl false 1 1) ?_
          refine sim_let (v := iv (((c19.getD []).length : Nat) : Int)) (O38.tab (A := Bigram) (s := c19) 1 rfl).len ?_
          refine sim_bind ((tl2_impl_CountModel env he_impl_countPairs he_impl_isCost he_slices_ContainsFunc_string_string sentences_ scale_ other_ o1 z10 z11 c12 c15 c19 x21 o24 q39 z40) ⟨rfl, O38⟩) (fun qq74 r hq => ?_)
          revert hq
          revert qq74
          intro q47 hq
          obtain ⟨z48, z49, h45, rfl, O46⟩ := hq
          rw [e_lk2x4_impl_CountModel]
          refine sim_let (v := AV.agg [iv other_, x21]) (O46.ld 2 rfl true 2 0) ?_
          refine sim_store O46 0 (cs' := [iv other_, x21]) rfl (by first | rfl | simp [(O46.one (A := Bigram) (s := q47) 1 rfl).1, (O46.one (A := Bigram) (s := q47) 1 rfl).2]) (by simp) (by first | rfl | simp [(O46.one (A := Bigram) (s := q47) 1 rfl).1, (O46.one (A := Bigram) (s := q47) 1 rfl).2]) (by first | rfl | simp [splice, (O46.one (A := Bigram) (s := q47) 1 rfl).1, (O46.one (A := Bigram) (s := q47) 1 rfl).2]) (fun h50 O51 => ?_)
          replace O51 : Hold B h50 [(AV.ptr o1 1 0 0, .pt 2 [iv other_, x21]), (x21, obS (q47 : Sl Bigram)), (AV.ptr o24 1 0 0, .pt 2 [iv other_, x21])] := O51
          refine sim_retL (resL_c (v := AV.agg [iv other_, x21]) (O51.ld 0 rfl true 2 0) (resL_v (v := iv 0) (resL_nil _))) ?_
          dsimp only [pack]
          have O52 : Hold B h50 [(x21, obS (q47 : Sl Bigram))] := O51.sel [1] (by decide) rfl
          exact sim_ret (release_of (by simp only [ids_tup, ids_aggD, ids_agg, ids_iv, ids_bv, ids_sv, ids_bt, ids_nilS, ids_enc, O52.idsD (A := Bigram) (s := q47) 0 rfl, List.map_append, List.map_nil, List.flatMap_cons, List.flatMap_nil, List.append_nil, List.nil_append]; simpa only [List.flatMap_cons, List.flatMap_nil, List.append_nil, List.nil_append] using O52.nd2) (by simp only [rel_tup, rel_aggD, rel_agg, rel_iv, rel_bv, rel_sv, rel_bt, rel_nilS, rel_enc, O52.relD (A := Bigram) (s := q47) 0 rfl, omapc, omapn, obind_sm] <;> rfl))
  · obtain ⟨q93, h90, rfl, O91⟩ := hq
    rw [e_lk0r_impl_CountModel]
    refine sim_retL (resL_c (v := AV.agg [iv 0, nilS]) (O91.ld 0 rfl true 2 0) (resL_v (v := iv q92) (resL_nil _))) ?_
    dsimp only [pack]
    exact sim_ret (release_plain (by rfl) _)
theorem tt_impl_CountModel : PureOK Try.prog n_impl_CountModel (C3 (fun c : Model × Int => AV.tup [AV.agg [iv c.1.default, rS c.1.bigrams], enc c.2]) t_impl_CountModel) := pureC3 (Econs tt_impl_countPairs (Econs ok_impl_isCost (Econs (tt0_slices_ContainsFunc_string_string tt_impl_CountModel_1) E0))) mixed hb_impl_CountModel fun sentences_ scale_ other_ => ts_impl_CountModel _ (by simp [envL]) (by simp [envL]) (by simp [envL]) sentences_ scale_ other_

def s0_laws_eqBigramS (a_ : Sl Bigram) (b_ : Sl Bigram) : Int → Option (Sum Int (Sum Unit Bool)) := fun w4 =>
  bif decide (w4 < (((a_.getD []).length : Nat) : Int)) then
    obind (getI (a_.getD []) w4) fun a14 =>
    obind (getI (b_.getD []) w4) fun a18 =>
    obind (some ((fun a b : Bigram => decide (a = b)) a14 a18)) fun c22 =>
    bif !c22 then
      some (.inr (.inr false))
    else
      some (.inl (wr (w4 + 1)))
  else
    some (.inr (.inl ()))
def t_laws_eqBigramS (a_ : Sl Bigram) (b_ : Sl Bigram) : Option Bool :=
  bif !decide ((((a_.getD []).length : Nat) : Int) = (((b_.getD []).length : Nat) : Int)) then
    some false
  else
    obind (loopT (s0_laws_eqBigramS a_ b_) 0) fun qq28 => match qq28 with
    | (.inl _) =>
        some true
    | (.inr q11) =>
        some q11

theorem tl0_laws_eqBigramS (env : Nat → Contract) {B : Base} (he_laws_eqBigram : env n_laws_eqBigram = .pure (T2 (fun a b : Bigram => decide (a = b)))) (a_ : Sl Bigram) (b_ : Sl Bigram)  {st : Int} {tm : TM} {h : Heap} (R : (fun (st : Int) tm h2 => match st with | w4 => tm = [Sl.enc a_, Sl.enc b_, und, und, AV.top, iv w4, Sl.enc a_, iv (((a_.getD []).length : Nat) : Int), Sl.enc b_, iv (((b_.getD []).length : Nat) : Int), bv (!decide ((((a_.getD []).length : Nat) : Int) = (((b_.getD []).length : Nat) : Int))), AV.top, AV.top, AV.top, AV.top, AV.top, AV.top, AV.top, AV.top, AV.top, AV.top, AV.top, AV.top, AV.top, AV.top, AV.top, AV.top] ∧ Hold B h2 []) st tm h) : Sim (loopP hm0_laws_eqBigramS xm0_laws_eqBigramS (lb0_laws_eqBigramS env) tm h) (loopT (s0_laws_eqBigramS a_ b_) st) (fun (q : Sum Unit Bool) (r : Res) => match q with | .inl _ => ∃ (q8 : Int) (z7 : AV) (h5 : Heap), r = (.exit 0, [Sl.enc a_, Sl.enc b_, und, und, z7, iv q8, Sl.enc a_, iv (((a_.getD []).length : Nat) : Int), Sl.enc b_, iv (((b_.getD []).length : Nat) : Int), bv (!decide ((((a_.getD []).length : Nat) : Int) = (((b_.getD []).length : Nat) : Int))), AV.top, AV.top, AV.top, AV.top, AV.top, AV.top, AV.top, AV.top, AV.top, AV.top, AV.top, AV.top, AV.top, AV.top, AV.top, AV.top], h5) ∧ Hold B h5 [] | .inr q11 => ∃ (q12 : Int) (h9 : Heap), r = (.ret, [Sl.enc a_, Sl.enc b_, und, und, bv q11, iv q12, Sl.enc a_, iv (((a_.getD []).length : Nat) : Int), Sl.enc b_, iv (((b_.getD []).length : Nat) : Int), bv (!decide ((((a_.getD []).length : Nat) : Int) = (((b_.getD []).length : Nat) : Int))), AV.top, AV.top, AV.top, AV.top, AV.top, AV.top, AV.top, AV.top, AV.top, AV.top, AV.top, AV.top, AV.top, AV.top, AV.top, AV.top], h9) ∧ Hold B h9 []) := by
  refine loop_sim (Rel := fun (st : Int) tm h2 => match st with | w4 => tm = [Sl.enc a_, Sl.enc b_, und, und, AV.top, iv w4, Sl.enc a_, iv (((a_.getD []).length : Nat) : Int), Sl.enc b_, iv (((b_.getD []).length : Nat) : Int), bv (!decide ((((a_.getD []).length : Nat) : Int) = (((b_.getD []).length : Nat) : Int))), AV.top, AV.top, AV.top, AV.top, AV.top, AV.top, AV.top, AV.top, AV.top, AV.top, AV.top, AV.top, AV.top, AV.top, AV.top, AV.top] ∧ Hold B h2 []) (fun w4 tm h2 R => ?_) R
  obtain ⟨rfl, O3⟩ := R
  rw [e_lb0_laws_eqBigramS]
  unfold s0_laws_eqBigramS
  dsimp only
  refine sim_let (v := iv (((a_.getD []).length : Nat) : Int)) (Tab.enc h2 a_).len ?_
  refine sim_let (v := bv (decide (w4 < (((a_.getD []).length : Nat) : Int)))) (aBin_lss _ _) ?_
  refine sim_cond (fun c13 => ?_) (fun c13 => ?_)
  · refine sim_get (Tab.enc h2 a_) (fun m15 a14 hi16 hm17 => ?_)
    refine sim_let (v := AV.agg [sv a14.first, sv a14.second, iv a14.cost]) ((Tab.enc h2 a_).ld hm17 true 3 0) ?_
    refine sim_get (Tab.enc h2 b_) (fun m19 a18 hi20 hm21 => ?_)
    refine sim_let (v := AV.agg [sv a18.first, sv a18.second, iv a18.cost]) ((Tab.enc h2 b_).ld hm21 true 3 0) ?_
    refine sim_callVQ2 (t := (fun a b : Bigram => decide (a = b))) he_laws_eqBigram (snapD_nr _ a14 rfl) (snapD_nr _ a18 rfl) (fun c22 => ?_)
    refine sim_let (v := bv (!c22)) (aUn_not _) ?_
    refine sim_cond (fun c23 => ?_) (fun c23 => ?_)
    · exact sim_ret ⟨nofun, _, _, rfl, O3⟩
    · refine sim_let (v := iv (wr (w4 + 1))) (aBin_add _ _) ?_
      exact sim_ret ⟨rfl, rfl, O3⟩
  · exact sim_ret ⟨nofun, _, _, _, rfl, O3⟩
theorem ts_laws_eqBigramS (env : Nat → Contract) (he_laws_eqBigram : env n_laws_eqBigram = .pure (T2 (fun a b : Bigram => decide (a = b)))) (a_ : Sl Bigram) (b_ : Sl Bigram) : Sim (denFn Try.prog env n_laws_eqBigramS [Sl.enc a_, Sl.enc b_] []) (t_laws_eqBigramS a_ b_) fun c p => release p.2 depth p.1 = some ((fun c : Bool => enc c) c) := by
  have O := Hold.nil []
  generalize hB : (⟨[], []⟩ : Base) = B at O
  clear hB
  rw [e_laws_eqBigramS]
  unfold t_laws_eqBigramS
  refine sim_let (v := iv (((a_.getD []).length : Nat) : Int)) (Tab.enc [] a_).len ?_
  refine sim_let (v := iv (((b_.getD []).length : Nat) : Int)) (Tab.enc [] b_).len ?_
  refine sim_let (v := bv (!decide ((((a_.getD []).length : Nat) : Int) = (((b_.getD []).length : Nat) : Int)))) (aCmp_ne _ _) ?_
  refine sim_cond (fun c1 => ?_) (fun c1 => ?_)
  · exact sim_ret (release_plain (by rfl) _)
  · refine sim_bind ((tl0_laws_eqBigramS env he_laws_eqBigram a_ b_) ⟨rfl, O⟩) (fun qq28 r hq => ?_)
    rcases qq28 with _ | q11
    · obtain ⟨q8, z7, h5, rfl, O6⟩ := hq
      rw [e_lk0x0_laws_eqBigramS]
      exact sim_ret (release_plain (by rfl) _)
    · obtain ⟨q12, h9, rfl, O10⟩ := hq
      rw [e_lk0r_laws_eqBigramS]
      exact sim_ret (release_plain (by rfl) _)
theorem tt_laws_eqBigramS : PureOK Try.prog n_laws_eqBigramS (C2 (fun c : Bool => enc c) t_laws_eqBigramS) := pureC2 (Econs ok_laws_eqBigram E0) mixed hb_laws_eqBigramS fun a_ b_ => ts_laws_eqBigramS _ (by simp [envL]) a_ b_

def t_laws_eqModel (a_ : Model) (b_ : Model) : Option Bool :=
  bif !decide (a_.default = b_.default) then
    some false
  else
    obind (t_laws_eqBigramS a_.bigrams b_.bigrams) fun c10 =>
    bif !c10 then
      some false
    else
      some true

theorem ts_laws_eqModel (env : Nat → Contract) (he_laws_eqBigramS : env n_laws_eqBigramS = .pure (C2 (fun c : Bool => enc c) t_laws_eqBigramS)) (a_ : Model) (b_ : Model) : Sim (denFn Try.prog env n_laws_eqModel [AV.agg [iv a_.default, Sl.enc a_.bigrams], AV.agg [iv b_.default, Sl.enc b_.bigrams]] []) (t_laws_eqModel a_ b_) fun c p => release p.2 depth p.1 = some ((fun c : Bool => enc c) c) := by
  have O := Hold.nil []
  generalize hB : (⟨[], []⟩ : Base) = B at O
  clear hB
  rw [e_laws_eqModel]
  unfold t_laws_eqModel
  refine sim_box O (cs := [iv a_.default, Sl.enc a_.bigrams]) (by first | rfl | simp) (fun o1 h2 O3 => ?_)
  replace O3 : Hold B h2 [(AV.ptr o1 1 0 0, .pt 2 [iv a_.default, Sl.enc a_.bigrams])] := O3
  refine sim_box O3 (cs := [iv b_.default, Sl.enc b_.bigrams]) (by first | rfl | simp) (fun o5 h6 O7 => ?_)
  replace O7 : Hold B h6 [(AV.ptr o1 1 0 0, .pt 2 [iv a_.default, Sl.enc a_.bigrams]), (AV.ptr o5 1 0 0, .pt 2 [iv b_.default, Sl.enc b_.bigrams])] := O7
  refine sim_let (v := AV.ptr o1 1 0 0) rfl ?_
  refine sim_let (v := iv a_.default) (O7.ld 0 rfl false 1 0) ?_
  refine sim_let (v := AV.ptr o5 1 0 0) rfl ?_
  refine sim_let (v := iv b_.default) (O7.ld 1 rfl false 1 0) ?_
  refine sim_let (v := bv (!decide (a_.default = b_.default))) (aCmp_ne _ _) ?_
  refine sim_cond (fun c9 => ?_) (fun c9 => ?_)
  · exact sim_ret (release_plain (by rfl) _)
  · refine sim_let (v := AV.ptr o1 1 0 1) rfl ?_
    refine sim_let (v := Sl.enc a_.bigrams) (O7.ld 0 rfl false 1 1) ?_
    refine sim_let (v := AV.ptr o5 1 0 1) rfl ?_
    refine sim_let (v := Sl.enc b_.bigrams) (O7.ld 1 rfl false 1 1) ?_
    refine sim_call2 he_laws_eqBigramS (snapD_enc _ _) (snapD_enc _ _) (fun c10 => ?_)
    refine sim_let2 (hand_plain (by rfl) _ _) ?_
    refine sim_let (v := bv (!c10)) (aUn_not _) ?_
    refine sim_cond (fun c11 => ?_) (fun c11 => ?_)
    · exact sim_ret (release_plain (by rfl) _)
    · exact sim_ret (release_plain (by rfl) _)
theorem tt_laws_eqModel : PureOK Try.prog n_laws_eqModel (C2 (fun c : Bool => enc c) t_laws_eqModel) := pureC2 (Econs tt_laws_eqBigramS E0) mixed hb_laws_eqModel fun a_ b_ => ts_laws_eqModel _ (by simp [envL]) a_ b_

def s0_laws_eqStringS (a_ : Sl ByteArray) (b_ : Sl ByteArray) : Int → Option (Sum Int (Sum Unit Bool)) := fun w4 =>
  bif decide (w4 < (((a_.getD []).length : Nat) : Int)) then
    obind (getI (a_.getD []) w4) fun a14 =>
    obind (getI (b_.getD []) w4) fun a18 =>
    bif !decide (a14 = a18) then
      some (.inr (.inr false))
    else
      some (.inl (wr (w4 + 1)))
  else
    some (.inr (.inl ()))
def t_laws_eqStringS (a_ : Sl ByteArray) (b_ : Sl ByteArray) : Option Bool :=
  bif !decide ((((a_.getD []).length : Nat) : Int) = (((b_.getD []).length : Nat) : Int)) then
    some false
  else
    obind (loopT (s0_laws_eqStringS a_ b_) 0) fun qq27 => match qq27 with
    | (.inl _) =>
        some true
    | (.inr q11) =>
        some q11

theorem tl0_laws_eqStringS (env : Nat → Contract) {B : Base}  (a_ : Sl ByteArray) (b_ : Sl ByteArray)  {st : Int} {tm : TM} {h : Heap} (R : (fun (st : Int) tm h2 => match st with | w4 => tm = [Sl.enc a_, Sl.enc b_, und, und, AV.top, iv w4, Sl.enc a_, iv (((a_.getD []).length : Nat) : Int), Sl.enc b_, iv (((b_.getD []).length : Nat) : Int), bv (!decide ((((a_.getD []).length : Nat) : Int) = (((b_.getD []).length : Nat) : Int))), AV.top, AV.top, AV.top, AV.top, AV.top, AV.top, AV.top, AV.top, AV.top, AV.top, AV.top, AV.top, AV.top, AV.top, AV.top] ∧ Hold B h2 []) st tm h) : Sim (loopP hm0_laws_eqStringS xm0_laws_eqStringS (lb0_laws_eqStringS env) tm h) (loopT (s0_laws_eqStringS a_ b_) st) (fun (q : Sum Unit Bool) (r : Res) => match q with | .inl _ => ∃ (q8 : Int) (z7 : AV) (h5 : Heap), r = (.exit 0, [Sl.enc a_, Sl.enc b_, und, und, z7, iv q8, Sl.enc a_, iv (((a_.getD []).length : Nat) : Int), Sl.enc b_, iv (((b_.getD []).length : Nat) : Int), bv (!decide ((((a_.getD []).length : Nat) : Int) = (((b_.getD []).length : Nat) : Int))), AV.top, AV.top, AV.top, AV.top, AV.top, AV.top, AV.top, AV.top, AV.top, AV.top, AV.top, AV.top, AV.top, AV.top, AV.top], h5) ∧ Hold B h5 [] | .inr q11 => ∃ (q12 : Int) (h9 : Heap), r = (.ret, [Sl.enc a_, Sl.enc b_, und, und, bv q11, iv q12, Sl.enc a_, iv (((a_.getD []).length : Nat) : Int), Sl.enc b_, iv (((b_.getD []).length : Nat) : Int), bv (!decide ((((a_.getD []).length : Nat) : Int) = (((b_.getD []).length : Nat) : Int))), AV.top, AV.top, AV.top, AV.top, AV.top, AV.top, AV.top, AV.top, AV.top, AV.top, AV.top, AV.top, AV.top, AV.top, AV.top], h9) ∧ Hold B h9 []) := by
  refine loop_sim (Rel := fun (st : Int) tm h2 => match st with | w4 => tm = [Sl.enc a_, Sl.enc b_, und, und, AV.top, iv w4, Sl.enc a_, iv (((a_.getD []).length : Nat) : Int), Sl.enc b_, iv (((b_.getD []).length : Nat) : Int), bv (!decide ((((a_.getD []).length : Nat) : Int) = (((b_.getD []).length : Nat) : Int))), AV.top, AV.top, AV.top, AV.top, AV.top, AV.top, AV.top, AV.top, AV.top, AV.top, AV.top, AV.top, AV.top, AV.top, AV.top] ∧ Hold B h2 []) (fun w4 tm h2 R => ?_) R
  obtain ⟨rfl, O3⟩ := R
  rw [e_lb0_laws_eqStringS]
  unfold s0_laws_eqStringS
  dsimp only
  refine sim_let (v := iv (((a_.getD []).length : Nat) : Int)) (Tab.enc h2 a_).len ?_
  refine sim_let (v := bv (decide (w4 < (((a_.getD []).length : Nat) : Int)))) (aBin_lss _ _) ?_
  refine sim_cond (fun c13 => ?_) (fun c13 => ?_)
  · refine sim_get (Tab.enc h2 a_) (fun m15 a14 hi16 hm17 => ?_)
    refine sim_let (v := sv a14) ((Tab.enc h2 a_).ld hm17 false 1 0) ?_
    refine sim_get (Tab.enc h2 b_) (fun m19 a18 hi20 hm21 => ?_)
    refine sim_let (v := sv a18) ((Tab.enc h2 b_).ld hm21 false 1 0) ?_
    refine sim_let (v := bv (!decide (a14 = a18))) (aCmp_neS _ _) ?_
    refine sim_cond (fun c22 => ?_) (fun c22 => ?_)
    · exact sim_ret ⟨nofun, _, _, rfl, O3⟩
    · refine sim_let (v := iv (wr (w4 + 1))) (aBin_add _ _) ?_
      exact sim_ret ⟨rfl, rfl, O3⟩
  · exact sim_ret ⟨nofun, _, _, _, rfl, O3⟩
theorem ts_laws_eqStringS (env : Nat → Contract)  (a_ : Sl ByteArray) (b_ : Sl ByteArray) : Sim (denFn Try.prog env n_laws_eqStringS [Sl.enc a_, Sl.enc b_] []) (t_laws_eqStringS a_ b_) fun c p => release p.2 depth p.1 = some ((fun c : Bool => enc c) c) := by
  have O := Hold.nil []
  generalize hB : (⟨[], []⟩ : Base) = B at O
  clear hB
  rw [e_laws_eqStringS]
  unfold t_laws_eqStringS
  refine sim_let (v := iv (((a_.getD []).length : Nat) : Int)) (Tab.enc [] a_).len ?_
  refine sim_let (v := iv (((b_.getD []).length : Nat) : Int)) (Tab.enc [] b_).len ?_
  refine sim_let (v := bv (!decide ((((a_.getD []).length : Nat) : Int) = (((b_.getD []).length : Nat) : Int)))) (aCmp_ne _ _) ?_
  refine sim_cond (fun c1 => ?_) (fun c1 => ?_)
  · exact sim_ret (release_plain (by rfl) _)
  · refine sim_bind ((tl0_laws_eqStringS env a_ b_) ⟨rfl, O⟩) (fun qq27 r hq => ?_)
    rcases qq27 with _ | q11
    · obtain ⟨q8, z7, h5, rfl, O6⟩ := hq
      rw [e_lk0x0_laws_eqStringS]
      exact sim_ret (release_plain (by rfl) _)
    · obtain ⟨q12, h9, rfl, O10⟩ := hq
      rw [e_lk0r_laws_eqStringS]
      exact sim_ret (release_plain (by rfl) _)
theorem tt_laws_eqStringS : PureOK Try.prog n_laws_eqStringS (C2 (fun c : Bool => enc c) t_laws_eqStringS) := pureC2 E0 mixed hb_laws_eqStringS fun a_ b_ => ts_laws_eqStringS _  a_ b_

def s0_laws_eqStringSS (a_ : Sl (Sl ByteArray)) (b_ : Sl (Sl ByteArray)) : Int → Option (Sum Int (Sum Unit Bool)) := fun w4 =>
  bif decide (w4 < (((a_.getD []).length : Nat) : Int)) then
    obind (getI (a_.getD []) w4) fun a14 =>
    obind (getI (b_.getD []) w4) fun a18 =>
    obind (t_laws_eqStringS a14 a18) fun c22 =>
    bif !c22 then
      some (.inr (.inr false))
    else
      some (.inl (wr (w4 + 1)))
  else
    some (.inr (.inl ()))
def t_laws_eqStringSS (a_ : Sl (Sl ByteArray)) (b_ : Sl (Sl ByteArray)) : Option Bool :=
  bif !decide ((((a_.getD []).length : Nat) : Int) = (((b_.getD []).length : Nat) : Int)) then
    some false
  else
    obind (loopT (s0_laws_eqStringSS a_ b_) 0) fun qq28 => match qq28 with
    | (.inl _) =>
        some true
    | (.inr q11) =>
        some q11

theorem tl0_laws_eqStringSS (env : Nat → Contract) {B : Base} (he_laws_eqStringS : env n_laws_eqStringS = .pure (C2 (fun c : Bool => enc c) t_laws_eqStringS)) (a_ : Sl (Sl ByteArray)) (b_ : Sl (Sl ByteArray))  {st : Int} {tm : TM} {h : Heap} (R : (fun (st : Int) tm h2 => match st with | w4 => tm = [Sl.enc a_, Sl.enc b_, und, und, AV.top, iv w4, Sl.enc a_, iv (((a_.getD []).length : Nat) : Int), Sl.enc b_, iv (((b_.getD []).length : Nat) : Int), bv (!decide ((((a_.getD []).length : Nat) : Int) = (((b_.getD []).length : Nat) : Int))), AV.top, AV.top, AV.top, AV.top, AV.top, AV.top, AV.top, AV.top, AV.top, AV.top, AV.top, AV.top, AV.top, AV.top, AV.top, AV.top] ∧ Hold B h2 []) st tm h) : Sim (loopP hm0_laws_eqStringSS xm0_laws_eqStringSS (lb0_laws_eqStringSS env) tm h) (loopT (s0_laws_eqStringSS a_ b_) st) (fun (q : Sum Unit Bool) (r : Res) => match q with | .inl _ => ∃ (q8 : Int) (z7 : AV) (h5 : Heap), r = (.exit 0, [Sl.enc a_, Sl.enc b_, und, und, z7, iv q8, Sl.enc a_, iv (((a_.getD []).length : Nat) : Int), Sl.enc b_, iv (((b_.getD []).length : Nat) : Int), bv (!decide ((((a_.getD []).length : Nat) : Int) = (((b_.getD []).length : Nat) : Int))), AV.top, AV.top, AV.top, AV.top, AV.top, AV.top, AV.top, AV.top, AV.top, AV.top, AV.top, AV.top, AV.top, AV.top, AV.top, AV.top], h5) ∧ Hold B h5 [] | .inr q11 => ∃ (q12 : Int) (h9 : Heap), r = (.ret, [Sl.enc a_, Sl.enc b_, und, und, bv q11, iv q12, Sl.enc a_, iv (((a_.getD []).length : Nat) : Int), Sl.enc b_, iv (((b_.getD []).length : Nat) : Int), bv (!decide ((((a_.getD []).length : Nat) : Int) = (((b_.getD []).length : Nat) : Int))), AV.top, AV.top, AV.top, AV.top, AV.top, AV.top, AV.top, AV.top, AV.top, AV.top, AV.top, AV.top, AV.top, AV.top, AV.top, AV.top], h9) ∧ Hold B h9 []) := by
  refine loop_sim (Rel := fun (st : Int) tm h2 => match st with | w4 => tm = [Sl.enc a_, Sl.enc b_, und, und, AV.top, iv w4, Sl.enc a_, iv (((a_.getD []).length : Nat) : Int), Sl.enc b_, iv (((b_.getD []).length : Nat) : Int), bv (!decide ((((a_.getD []).length : Nat) : Int) = (((b_.getD []).length : Nat) : Int))), AV.top, AV.top, AV.top, AV.top, AV.top, AV.top, AV.top, AV.top, AV.top, AV.top, AV.top, AV.top, AV.top, AV.top, AV.top, AV.top] ∧ Hold B h2 []) (fun w4 tm h2 R => ?_) R
  obtain ⟨rfl, O3⟩ := R
  rw [e_lb0_laws_eqStringSS]
  unfold s0_laws_eqStringSS
  dsimp only
  refine sim_let (v := iv (((a_.getD []).length : Nat) : Int)) (Tab.enc h2 a_).len ?_
  refine sim_let (v := bv (decide (w4 < (((a_.getD []).length : Nat) : Int)))) (aBin_lss _ _) ?_
  refine sim_cond (fun c13 => ?_) (fun c13 => ?_)
  · refine sim_get (Tab.enc h2 a_) (fun m15 a14 hi16 hm17 => ?_)
    refine sim_let (v := Sl.enc a14) ((Tab.enc h2 a_).ld hm17 false 1 0) ?_
    refine sim_get (Tab.enc h2 b_) (fun m19 a18 hi20 hm21 => ?_)
    refine sim_let (v := Sl.enc a18) ((Tab.enc h2 b_).ld hm21 false 1 0) ?_
    refine sim_callQ2 he_laws_eqStringS (snapD_enc _ _) (snapD_enc _ _) (fun c22 => ?_)
    refine sim_let2 (hand_plain (by rfl) _ _) ?_
    refine sim_let (v := bv (!c22)) (aUn_not _) ?_
    refine sim_cond (fun c23 => ?_) (fun c23 => ?_)
    · exact sim_ret ⟨nofun, _, _, rfl, O3⟩
    · refine sim_let (v := iv (wr (w4 + 1))) (aBin_add _ _) ?_
      exact sim_ret ⟨rfl, rfl, O3⟩
  · exact sim_ret ⟨nofun, _, _, _, rfl, O3⟩
theorem ts_laws_eqStringSS (env : Nat → Contract) (he_laws_eqStringS : env n_laws_eqStringS = .pure (C2 (fun c : Bool => enc c) t_laws_eqStringS)) (a_ : Sl (Sl ByteArray)) (b_ : Sl (Sl ByteArray)) : Sim (denFn Try.prog env n_laws_eqStringSS [Sl.enc a_, Sl.enc b_] []) (t_laws_eqStringSS a_ b_) fun c p => release p.2 depth p.1 = some ((fun c : Bool => enc c) c) := by
  have O := Hold.nil []
  generalize hB : (⟨[], []⟩ : Base) = B at O
  clear hB
  rw [e_laws_eqStringSS]
  unfold t_laws_eqStringSS
  refine sim_let (v := iv (((a_.getD []).length : Nat) : Int)) (Tab.enc [] a_).len ?_
  refine sim_let (v := iv (((b_.getD []).length : Nat) : Int)) (Tab.enc [] b_).len ?_
  refine sim_let (v := bv (!decide ((((a_.getD []).length : Nat) : Int) = (((b_.getD []).length : Nat) : Int)))) (aCmp_ne _ _) ?_
  refine sim_cond (fun c1 => ?_) (fun c1 => ?_)
  · exact sim_ret (release_plain (by rfl) _)
  · refine sim_bind ((tl0_laws_eqStringSS env he_laws_eqStringS a_ b_) ⟨rfl, O⟩) (fun qq28 r hq => ?_)
    rcases qq28 with _ | q11
    · obtain ⟨q8, z7, h5, rfl, O6⟩ := hq
      rw [e_lk0x0_laws_eqStringSS]
      exact sim_ret (release_plain (by rfl) _)
    · obtain ⟨q12, h9, rfl, O10⟩ := hq
      rw [e_lk0r_laws_eqStringSS]
      exact sim_ret (release_plain (by rfl) _)
theorem tt_laws_eqStringSS : PureOK Try.prog n_laws_eqStringSS (C2 (fun c : Bool => enc c) t_laws_eqStringSS) := pureC2 (Econs tt_laws_eqStringS E0) mixed hb_laws_eqStringSS fun a_ b_ => ts_laws_eqStringSS _ (by simp [envL]) a_ b_

def s0_laws_markText : (Int × ByteArray) → Option (Sum (Int × ByteArray) ByteArray) := fun (w4, w5) =>
  bif decide (0 < w4) then
    obind (catO (strL ((some ([byteI (wr (48 + (Int.tmod w4 10)))] : List UInt8)).getD [])) w5) fun s16 =>
    some (.inl (wr (Int.tdiv w4 10), s16))
  else
    some (.inr w5)
def t_laws_markText (k_ : Int) : Option ByteArray :=
  bif decide (k_ ≤ 0) then
    some (⟨#[109, 48]⟩ : ByteArray)
  else
    obind (loopT s0_laws_markText (k_, (⟨#[]⟩ : ByteArray))) fun q9 =>
    obind (catO (⟨#[109]⟩ : ByteArray) q9) fun s10 =>
    some s10

theorem tl0_laws_markText (env : Nat → Contract) {B : Base}  (k_ : Int)  {st : Int × ByteArray} {tm : TM} {h : Heap} (R : (fun (st : Int × ByteArray) tm h2 => match st with | (w4, w5) => tm = [iv w4, und, sv (⟨#[]⟩ : ByteArray), sv w5, iv k_, bv (decide (k_ ≤ 0)), AV.top, AV.top, AV.top, AV.top, AV.top, AV.top, AV.top, AV.top, AV.top, AV.top, AV.top, AV.top, und, und] ∧ Hold B h2 []) st tm h) : Sim (loopP hm0_laws_markText xm0_laws_markText (lb0_laws_markText env) tm h) (loopT s0_laws_markText st) (fun (q : ByteArray) (r : Res) => match q with | q9 => ∃ (q8 : Int) (h6 : Heap), r = (.exit 0, [iv q8, und, sv (⟨#[]⟩ : ByteArray), sv q9, iv k_, bv (decide (k_ ≤ 0)), AV.top, AV.top, AV.top, AV.top, AV.top, AV.top, AV.top, AV.top, AV.top, AV.top, AV.top, AV.top, und, und], h6) ∧ Hold B h6 []) := by
  refine loop_sim (Rel := fun (st : Int × ByteArray) tm h2 => match st with | (w4, w5) => tm = [iv w4, und, sv (⟨#[]⟩ : ByteArray), sv w5, iv k_, bv (decide (k_ ≤ 0)), AV.top, AV.top, AV.top, AV.top, AV.top, AV.top, AV.top, AV.top, AV.top, AV.top, AV.top, AV.top, und, und] ∧ Hold B h2 []) (fun st tm h2 R => ?_) R
  obtain ⟨w4, w5⟩ := st
  obtain ⟨rfl, O3⟩ := R
  rw [e_lb0_laws_markText]
  unfold s0_laws_markText
  dsimp only
  refine sim_let (v := bv (decide (0 < w4))) (aBin_gtr _ _) ?_
  refine sim_cond (fun c11 => ?_) (fun c11 => ?_)
  · refine sim_let (v := iv (Int.tmod w4 10)) (aBin_rem _ _ (by decide)) ?_
    refine sim_let (v := iv (wr (48 + (Int.tmod w4 10)))) (aBin_add _ _) ?_
    refine sim_let (v := bt (byteI (wr (48 + (Int.tmod w4 10))))) (conv_u8 _) ?_
    refine sim_build (A := UInt8) O3 ([byteI (wr (48 + (Int.tmod w4 10)))] : List UInt8) rfl (by first | rfl | simp [aFillRows, zrows]) rfl (fun x12 h13 O14 => ?_)
    replace O14 : Hold B h13 [(x12, obS ((some ([byteI (wr (48 + (Int.tmod w4 10)))] : List UInt8)) : Sl UInt8))] := O14
    refine sim_let (v := sv (strL ((some ([byteI (wr (48 + (Int.tmod w4 10)))] : List UInt8)).getD []))) (conv_str (s := (some ([byteI (wr (48 + (Int.tmod w4 10)))] : List UInt8))) (O14.src (A := UInt8) (s := (some ([byteI (wr (48 + (Int.tmod w4 10)))] : List UInt8))) 0 rfl)) ?_
    refine sim_cat (fun s16 => ?_)
    refine sim_let (v := iv (wr (Int.tdiv w4 10))) (aBin_quo _ _ (by decide)) ?_
    have O17 : Hold B h13 [] := O14.sel [] (by decide) rfl
    exact sim_ret ⟨rfl, rfl, O17⟩
  · exact sim_ret ⟨nofun, _, _, rfl, O3⟩
theorem ts_laws_markText (env : Nat → Contract)  (k_ : Int) : Sim (denFn Try.prog env n_laws_markText [iv k_] []) (t_laws_markText k_) fun c p => release p.2 depth p.1 = some ((fun c : ByteArray => enc c) c) := by
  have O := Hold.nil []
  generalize hB : (⟨[], []⟩ : Base) = B at O
  clear hB
  rw [e_laws_markText]
  unfold t_laws_markText
  refine sim_let (v := bv (decide (k_ ≤ 0))) (aBin_leq _ _) ?_
  refine sim_cond (fun c1 => ?_) (fun c1 => ?_)
  · exact sim_ret (release_plain (by rfl) _)
  · refine sim_bind ((tl0_laws_markText env k_) ⟨rfl, O⟩) (fun qq20 r hq => ?_)
    revert hq
    revert qq20
    intro q9 hq
    obtain ⟨q8, h6, rfl, O7⟩ := hq
    rw [e_lk0x0_laws_markText]
    refine sim_cat (fun s10 => ?_)
    exact sim_ret (release_plain (by rfl) _)
theorem tt_laws_markText : PureOK Try.prog n_laws_markText (C1 (fun c : ByteArray => enc c) t_laws_markText) := pureC1 E0 mixed hb_laws_markText fun k_ => ts_laws_markText _  k_

def s0_laws_heldBigramS (a_ : Sl Bigram) : (Int × Int) → Option (Sum (Int × Int) (Sum Int Int)) := fun (w3, w4) =>
  bif decide (w4 < (((a_.getD []).length : Nat) : Int)) then
    obind (getI (a_.getD []) w4) fun a16 =>
    obind (t_laws_markText w3) fun c20 =>
    bif !decide (a16.first = c20) then
      some (.inr (.inr (-1)))
    else
      obind (getI (a_.getD []) w4) fun a23 =>
      obind (t_laws_markText (wr (w3 + 1))) fun c27 =>
      bif !decide (a23.second = c27) then
        some (.inr (.inr (-1)))
      else
        obind (getI (a_.getD []) w4) fun a30 =>
        bif !decide (a30.cost = wr ((wr (w3 + 1)) + 1)) then
          some (.inr (.inr (-1)))
        else
          some (.inl (wr ((wr ((wr (w3 + 1)) + 1)) + 1), wr (w4 + 1)))
  else
    some (.inr (.inl w3))
def t_laws_heldBigramS (a_ : Sl Bigram) (k_ : Int) : Option Int :=
  obind (loopT (s0_laws_heldBigramS a_) (k_, 0)) fun qq39 => match qq39 with
  | (.inl q7) =>
      some q7
  | (.inr q13) =>
      some q13

theorem tl0_laws_heldBigramS (env : Nat → Contract) {B : Base} (he_laws_markText : env n_laws_markText = .pure (C1 (fun c : ByteArray => enc c) t_laws_markText)) (a_ : Sl Bigram)  {st : Int × Int} {tm : TM} {h : Heap} (R : (fun (st : Int × Int) tm h1 => match st with | (w3, w4) => tm = [Sl.enc a_, iv w3, und, und, AV.top, iv w4, AV.top, AV.top, AV.top, AV.top, AV.top, AV.top, AV.top, AV.top, AV.top, AV.top, AV.top, AV.top, AV.top, AV.top, AV.top, AV.top, AV.top, AV.top, AV.top, AV.top, AV.top, AV.top, AV.top, AV.top, AV.top, AV.top, AV.top, AV.top, AV.top, AV.top, AV.top, AV.top, AV.top, AV.top, AV.top, und] ∧ Hold B h1 []) st tm h) : Sim (loopP hm0_laws_heldBigramS xm0_laws_heldBigramS (lb0_laws_heldBigramS env) tm h) (loopT (s0_laws_heldBigramS a_) st) (fun (q : Sum Int Int) (r : Res) => match q with | .inl q7 => ∃ (q9 : Int) (z8 : AV) (h5 : Heap), r = (.exit 0, [Sl.enc a_, iv q7, und, und, z8, iv q9, AV.top, AV.top, AV.top, AV.top, AV.top, AV.top, AV.top, AV.top, AV.top, AV.top, AV.top, AV.top, AV.top, AV.top, AV.top, AV.top, AV.top, AV.top, AV.top, AV.top, AV.top, AV.top, AV.top, AV.top, AV.top, AV.top, AV.top, AV.top, AV.top, AV.top, AV.top, AV.top, AV.top, AV.top, AV.top, und], h5) ∧ Hold B h5 [] | .inr q13 => ∃ (q12 : Int) (q14 : Int) (h10 : Heap), r = (.ret, [Sl.enc a_, iv q12, und, und, iv q13, iv q14, AV.top, AV.top, AV.top, AV.top, AV.top, AV.top, AV.top, AV.top, AV.top, AV.top, AV.top, AV.top, AV.top, AV.top, AV.top, AV.top, AV.top, AV.top, AV.top, AV.top, AV.top, AV.top, AV.top, AV.top, AV.top, AV.top, AV.top, AV.top, AV.top, AV.top, AV.top, AV.top, AV.top, AV.top, AV.top, und], h10) ∧ Hold B h10 []) := by
  refine loop_sim (Rel := fun (st : Int × Int) tm h1 => match st with | (w3, w4) => tm = [Sl.enc a_, iv w3, und, und, AV.top, iv w4, AV.top, AV.top, AV.top, AV.top, AV.top, AV.top, AV.top, AV.top, AV.top, AV.top, AV.top, AV.top, AV.top, AV.top, AV.top, AV.top, AV.top, AV.top, AV.top, AV.top, AV.top, AV.top, AV.top, AV.top, AV.top, AV.top, AV.top, AV.top, AV.top, AV.top, AV.top, AV.top, AV.top, AV.top, AV.top, und] ∧ Hold B h1 []) (fun st tm h1 R => ?_) R
  obtain ⟨w3, w4⟩ := st
  obtain ⟨rfl, O2⟩ := R
  rw [e_lb0_laws_heldBigramS]
  unfold s0_laws_heldBigramS
  dsimp only
  refine sim_let (v := iv (((a_.getD []).length : Nat) : Int)) (Tab.enc h1 a_).len ?_
  refine sim_let (v := bv (decide (w4 < (((a_.getD []).length : Nat) : Int)))) (aBin_lss _ _) ?_
  refine sim_cond (fun c15 => ?_) (fun c15 => ?_)
  · refine sim_get (Tab.enc h1 a_) (fun m17 a16 hi18 hm19 => ?_)
    refine sim_let (v := elp (Sl.enc a_) m17 0) ((Tab.enc h1 a_).fld _ _ _) ?_
    refine sim_let (v := sv a16.first) ((Tab.enc h1 a_).ld hm19 false 1 0) ?_
    refine sim_callQ1 he_laws_markText (snapD_int _ _) (fun c20 => ?_)
    refine sim_let2 (hand_plain (by rfl) _ _) ?_
    refine sim_let (v := bv (!decide (a16.first = c20))) (aCmp_neS _ _) ?_
    refine sim_cond (fun c21 => ?_) (fun c21 => ?_)
    · exact sim_ret ⟨nofun, _, _, _, rfl, O2⟩
    · refine sim_let (v := iv (wr (w3 + 1))) (aBin_add _ _) ?_
      refine sim_get (Tab.enc h1 a_) (fun m24 a23 hi25 hm26 => ?_)
      refine sim_let (v := elp (Sl.enc a_) m24 1) ((Tab.enc h1 a_).fld _ _ _) ?_
      refine sim_let (v := sv a23.second) ((Tab.enc h1 a_).ld hm26 false 1 1) ?_
      refine sim_callQ1 he_laws_markText (snapD_int _ _) (fun c27 => ?_)
      refine sim_let2 (hand_plain (by rfl) _ _) ?_
      refine sim_let (v := bv (!decide (a23.second = c27))) (aCmp_neS _ _) ?_
      refine sim_cond (fun c28 => ?_) (fun c28 => ?_)
      · exact sim_ret ⟨nofun, _, _, _, rfl, O2⟩
      · refine sim_let (v := iv (wr ((wr (w3 + 1)) + 1))) (aBin_add _ _) ?_
        refine sim_get (Tab.enc h1 a_) (fun m31 a30 hi32 hm33 => ?_)
        refine sim_let (v := elp (Sl.enc a_) m31 2) ((Tab.enc h1 a_).fld _ _ _) ?_
        refine sim_let (v := iv a30.cost) ((Tab.enc h1 a_).ld hm33 false 1 2) ?_
        refine sim_let (v := bv (!decide (a30.cost = wr ((wr (w3 + 1)) + 1)))) (aCmp_ne _ _) ?_
        refine sim_cond (fun c34 => ?_) (fun c34 => ?_)
        · exact sim_ret ⟨nofun, _, _, _, rfl, O2⟩
        · refine sim_let (v := iv (wr ((wr ((wr (w3 + 1)) + 1)) + 1))) (aBin_add _ _) ?_
          refine sim_let (v := iv (wr (w4 + 1))) (aBin_add _ _) ?_
          exact sim_ret ⟨rfl, rfl, O2⟩
  · exact sim_ret ⟨nofun, _, _, _, rfl, O2⟩
theorem ts_laws_heldBigramS (env : Nat → Contract) (he_laws_markText : env n_laws_markText = .pure (C1 (fun c : ByteArray => enc c) t_laws_markText)) (a_ : Sl Bigram) (k_ : Int) : Sim (denFn Try.prog env n_laws_heldBigramS [Sl.enc a_, iv k_] []) (t_laws_heldBigramS a_ k_) fun c p => release p.2 depth p.1 = some ((fun c : Int => enc c) c) := by
  have O := Hold.nil []
  generalize hB : (⟨[], []⟩ : Base) = B at O
  clear hB
  rw [e_laws_heldBigramS]
  unfold t_laws_heldBigramS
  refine sim_bind ((tl0_laws_heldBigramS env he_laws_markText a_) ⟨rfl, O⟩) (fun qq39 r hq => ?_)
  rcases qq39 with q7 | q13
  · obtain ⟨q9, z8, h5, rfl, O6⟩ := hq
    rw [e_lk0x0_laws_heldBigramS]
    exact sim_ret (release_plain (by rfl) _)
  · obtain ⟨q12, q14, h10, rfl, O11⟩ := hq
    rw [e_lk0r_laws_heldBigramS]
    exact sim_ret (release_plain (by rfl) _)
theorem tt_laws_heldBigramS : PureOK Try.prog n_laws_heldBigramS (C2 (fun c : Int => enc c) t_laws_heldBigramS) := pureC2 (Econs tt_laws_markText E0) mixed hb_laws_heldBigramS fun a_ k_ => ts_laws_heldBigramS _ (by simp [envL]) a_ k_

def t_laws_heldModel (a_ : Model) (k_ : Int) : Option Int :=
  obind (t_laws_heldBigramS a_.bigrams k_) fun c5 =>
  bif decide (c5 < 0) then
    some (-1)
  else
    some c5

theorem ts_laws_heldModel (env : Nat → Contract) (he_laws_heldBigramS : env n_laws_heldBigramS = .pure (C2 (fun c : Int => enc c) t_laws_heldBigramS)) (a_ : Model) (k_ : Int) : Sim (denFn Try.prog env n_laws_heldModel [AV.agg [iv a_.default, Sl.enc a_.bigrams], iv k_] []) (t_laws_heldModel a_ k_) fun c p => release p.2 depth p.1 = some ((fun c : Int => enc c) c) := by
  have O := Hold.nil []
  generalize hB : (⟨[], []⟩ : Base) = B at O
  clear hB
  rw [e_laws_heldModel]
  unfold t_laws_heldModel
  refine sim_box O (cs := [iv a_.default, Sl.enc a_.bigrams]) (by first | rfl | simp) (fun o1 h2 O3 => ?_)
  replace O3 : Hold B h2 [(AV.ptr o1 1 0 0, .pt 2 [iv a_.default, Sl.enc a_.bigrams])] := O3
  refine sim_let (v := AV.ptr o1 1 0 1) rfl ?_
  refine sim_let (v := Sl.enc a_.bigrams) (O3.ld 0 rfl false 1 1) ?_
  refine sim_call2 he_laws_heldBigramS (snapD_enc _ _) (snapD_int _ _) (fun c5 => ?_)
  refine sim_let2 (hand_plain (by rfl) _ _) ?_
  refine sim_let (v := bv (decide (c5 < 0))) (aBin_lss _ _) ?_
  refine sim_cond (fun c6 => ?_) (fun c6 => ?_)
  · exact sim_ret (release_plain (by rfl) _)
  · exact sim_ret (release_plain (by rfl) _)
theorem tt_laws_heldModel : PureOK Try.prog n_laws_heldModel (C2 (fun c : Int => enc c) t_laws_heldModel) := pureC2 (Econs tt_laws_heldBigramS E0) mixed hb_laws_heldModel fun a_ k_ => ts_laws_heldModel _ (by simp [envL]) a_ k_

theorem lp_laws_markBigramS (env : Nat → Contract) (he : env n_laws_markText = .pure (G1 (fun k : Int => decide (0 ≤ k) && decide (k ≤ 100000000)) fun k => sv (markT k.toNat))) {y2 y3 y4 y35 : AV} (o n : Nat) : ∀ (S P : List (List AV)) (k i : Nat) (h : Heap), i = P.length → P.length + S.length = n → n ≤ 4294967296 → (∀ r ∈ S, r.length = 3) → k + 3 * S.length ≤ 100000000 → h[o]? = some ⟨3, P ++ S⟩ →
    (obind (loopP hm0_laws_markBigramS xm0_laws_markBigramS (lb0_laws_markBigramS env) [.sl o n 0 n, iv (k : Nat), y2, y3, y4, iv (i : Nat), .top, .top, .top, .top, .top, .top, .top, .top, .top, .top, .top, .top, .top, .top, .top, .top, .top, .top, .top, .top, .top, .top, .top, .top, .top, .top, .top, .top, .top, y35] h) fun r => lk0_laws_markBigramS env r.1 r.2.1 r.2.2) = some (iv ((k + 3 * S.length : Nat) : Int), h.set o ⟨3, P ++ mrows [true, true, false] k S.length⟩) := by
  intro S
  induction S with
  | nil =>
    intro P k i h hi hl hn hr hk ho
    have : ¬ i < n := by simp at hl; omega
    have hs := set_same ho
    simp at hs
    rw [loopP.eq_1]
    simp [e_lb0_laws_markBigramS, restr, e_lk0x0_laws_markBigramS, this, mrows, hs]
  | cons r S ih =>
    intro P k i h hi hl hn hr hk ho
    have hl' : P.length + (S.length + 1) = n := by simpa using hl
    simp only [List.length_cons] at hk
    have hlt : i < n := by omega
    have hrl := hr r (by simp)
    obtain ⟨c0, c1, c2, rfl⟩ : ∃ c0 c1 c2, r = [c0, c1, c2] := by
      match r, hrl with
      | [c0, c1, c2], _ => exact ⟨c0, c1, c2, rfl⟩
    have olt := (List.getElem?_eq_some_iff.1 ho).1
    have a0 := mark_addr (w := 3) (r := [c0, c1, c2]) ho hi hl'
    have s0 := mark_store (j := 0) (v := sv (markT k)) ho hi hl' rfl rfl (by simp)
    simp only [List.set_cons_zero, List.set_cons_succ, List.set_set] at s0
    have g0 : (h.set o ⟨3, P ++ [(sv (markT k)), c1, c2] :: S⟩)[o]? = some ⟨3, P ++ [(sv (markT k)), c1, c2] :: S⟩ := by simp [olt]
    have w0 : wr ((k : Int) + 1) = ((k + 1 : Nat) : Int) := by rw [wr_id (by omega) (by omega)]; omega
    have t0 : (0 ≤ (k : Int)) = True := eq_true (by omega)
    have u0 : ((k : Int) ≤ 100000000) = True := eq_true (by omega)
    have q0 : ∀ h, aCall (env n_laws_markText) [iv (k : Int)] h = some (sv (markT k), h) := fun h => by
      rw [he]
      simp [-Int.natCast_add, t0, u0]
    have a1 := mark_addr (w := 3) (r := [(sv (markT k)), c1, c2]) g0 hi hl'
    have s1 := mark_store (j := 1) (v := sv (markT (k + 1))) g0 hi hl' rfl rfl (by simp)
    simp only [List.set_cons_zero, List.set_cons_succ, List.set_set] at s1
    have g1 : (h.set o ⟨3, P ++ [(sv (markT k)), (sv (markT (k + 1))), c2] :: S⟩)[o]? = some ⟨3, P ++ [(sv (markT k)), (sv (markT (k + 1))), c2] :: S⟩ := by simp [olt]
    have w1 : wr (((k + 1 : Nat) : Int) + 1) = ((k + 2 : Nat) : Int) := by rw [wr_id (by omega) (by omega)]; omega
    have t1 : (0 ≤ ((k + 1 : Nat) : Int)) = True := eq_true (by omega)
    have u1 : (((k + 1 : Nat) : Int) ≤ 100000000) = True := eq_true (by omega)
    have q1 : ∀ h, aCall (env n_laws_markText) [iv ((k + 1 : Nat) : Int)] h = some (sv (markT (k + 1)), h) := fun h => by
      rw [he]
      simp [-Int.natCast_add, t1, u1]
    have a2 := mark_addr (w := 3) (r := [(sv (markT k)), (sv (markT (k + 1))), c2]) g1 hi hl'
    have s2 := mark_store (j := 2) (v := iv ((k + 2 : Nat) : Int)) g1 hi hl' rfl rfl (by simp)
    simp only [List.set_cons_zero, List.set_cons_succ, List.set_set] at s2
    have g2 : (h.set o ⟨3, P ++ [(sv (markT k)), (sv (markT (k + 1))), (iv ((k + 2 : Nat) : Int))] :: S⟩)[o]? = some ⟨3, P ++ [(sv (markT k)), (sv (markT (k + 1))), (iv ((k + 2 : Nat) : Int))] :: S⟩ := by simp [olt]
    have w2 : wr (((k + 2 : Nat) : Int) + 1) = ((k + 3 : Nat) : Int) := by rw [wr_id (by omega) (by omega)]; omega
    have wi : wr ((i : Int) + 1) = ((i + 1 : Nat) : Int) := by rw [wr_id (by omega) (by omega)]; omega
    have r := ih (P ++ [[(sv (markT k)), (sv (markT (k + 1))), (iv ((k + 2 : Nat) : Int))]]) (k + 3) (i + 1) (h.set o ⟨3, P ++ [(sv (markT k)), (sv (markT (k + 1))), (iv ((k + 2 : Nat) : Int))] :: S⟩) (by simp [hi]) (by simp; omega) hn (fun r hr' => hr r (by simp [hr'])) (by omega) (by simp [olt])
    have hlz : ((i : Int) < (n : Nat)) := by omega
    rw [loopP.eq_1]
    simp only [e_lb0_laws_markBigramS, aLenK_sl, obind_sm, aBin_lss, condB_bv, hlz, decide_true, cond_true, aFieldAddr_ptr, Nat.zero_add, a0, s0, w0, q0, obind2_sm, a1, s1, w1, q1, obind2_sm, a2, s2, w2, wi, aBin_add, restr, cond_false]
    rw [r]
    simp only [mrows, mrow, List.length_cons, List.set_set, List.append_assoc, List.singleton_append, cond_true, cond_false, Nat.add_assoc]
    congr 3
    · omega
theorem gen_laws_markBigramS (env : Nat → Contract) (he : env n_laws_markText = .pure (G1 (fun k : Int => decide (0 ≤ k) && decide (k ≤ 100000000)) fun k => sv (markT k.toNat))) (R : List (List AV)) (o n : Nat) (hn : R.length = n) (hl : n ≤ 4294967296) (hr : ∀ r ∈ R, r.length = 3) (k : Nat) (hk : k + 3 * n ≤ 100000000) (h : Heap) (ho : h[o]? = some ⟨3, R⟩) :
    denFn Try.prog env n_laws_markBigramS [.sl o n 0 n, iv (k : Nat)] h = some (iv ((k + 3 * n : Nat) : Int), h.set o ⟨3, mrows [true, true, false] k n⟩) := by
  have L := fun {y2 y3 y4 y35} => @lp_laws_markBigramS env he y2 y3 y4 y35 o n R [] k 0 h rfl (by simpa using hn) hl hr (by rw [hn]; exact hk) (by simpa using ho)
  rw [hn] at L
  simp [-Int.natCast_add] at L
  simp [-Int.natCast_add, e_laws_markBigramS, L]

/-! ### Marks in a struct with one slice -/
/-- What a function that fills the slice of a struct with marks does. -/
def MarkGOK {A : Type} [Row A] (w j : Nat) (f : List AV → Heap → Option (AV × Heap)) (mk : Sl A → Int → Option (Int × Sl A)) : Prop :=
  ∀ (B : Base) (h : Heap) (L : List Ent) (i : Nat) (x : AV) (s : Sl A) (k r : Int) (s' : Sl A) (cs : List AV), Hold B h L → L[i]? = some (x, obS s) → cs.all AV.flat = true → cs.length = w → cs[j]? = some x → mk s k = some (r, s') → ∃ h', f [AV.agg cs, iv k] h = some (iv r, h') ∧ Hold B h' (L.set i (x, obS s'))
theorem sim_markG {A : Type} [Row A] {B : Base} {h : Heap} {L : List Ent} {γ δ : Type} {env : Nat → Contract} {g w j : Nat} {f : List AV → Heap → Option (AV × Heap)} {mk : Sl A → Int → Option (Int × Sl A)} {cs : List AV} (O : Hold B h L) (i : Nat) {x : AV} {s : Sl A} (hi : L[i]? = some (x, obS s)) {k : Int} (he : env g = .gen f) (hf : MarkGOK w j f mk) (hc : cs.all AV.flat = true) (hw : cs.length = w) (hj : cs[j]? = some x)
    {F : AV → Heap → Option γ} {G : Int × Sl A → Option δ} {Q : δ → γ → Prop} (K : ∀ r s' h', Hold B h' (L.set i (x, obS s')) → Sim (F (iv r) h') (G (r, s')) Q) : Sim (obind2 (aCall (env g) [AV.agg cs, iv k] h) F) (obind (mk s k) G) Q := by
  rw [he]
  show Sim (obind2 (f [AV.agg cs, iv k] h) F) _ Q
  cases hm : mk s k with
  | none => exact sim_no
  | some p =>
    obtain ⟨r, s'⟩ := p
    obtain ⟨h', e1, e2⟩ := hf B h L i x s k r s' cs O hi hc hw hj hm
    rw [obind_sm, e1, obind2_sm]
    exact K r s' h' e2
theorem markG_of {A : Type} [Row A] {w j g1 : Nat} {env : Nat → Contract} {f : List AV → Heap → Option (AV × Heap)} {D : List AV → Heap → Option (AV × Heap)} {mk : Sl A → Int → Option (Int × Sl A)} (he : env g1 = .gen f) (hf : MarkOK f mk)
    (e : ∀ (cs : List AV) (x1 : AV) (h : Heap), D [AV.agg cs, x1] h = obind2 (aBox cs h) fun v1 h2 => obind (aFieldAddr j v1) fun v3 => obind (aLoad false 1 v3 h2) fun v4 => obind2 (aCall (env g1) [v4, x1] h2) fun v5 h6 => some (v5, h6)) : MarkGOK w j D mk := by
  intro B h L i x s k r s' cs O hi hc hw hj hm
  have hx : x.cells = [x] ∧ x.flat = true := O.one i hi
  have hlt := (List.getElem?_eq_some_iff.1 hi).1
  have O2 : Hold B (h ++ [⟨cs.length, [cs]⟩]) (L ++ [(.ptr h.length 1 0 0, .pt cs.length cs)]) := O.alloc (.pt cs.length cs) rfl
  have hi2 : (L ++ [(AV.ptr h.length 1 0 0, EV.pt cs.length cs)])[i]? = some (x, obS s) := by rw [List.getElem?_append_left hlt]; exact hi
  obtain ⟨h', f1, f2⟩ := O2.mark i hi2 hf hm
  rw [List.set_append_left _ _ hlt] at f2
  refine ⟨h', ?_, f2.left⟩
  have ld := O2.ld (o := h.length) (k := cs.length) (cs := cs) L.length (by simp) false 1 j
  have dr : cs.drop j = x :: cs.drop (j + 1) := by
    obtain ⟨hl, e⟩ := List.getElem?_eq_some_iff.1 hj
    rw [List.drop_eq_getElem_cons hl, e]
  rw [e]
  unfold aBox
  rw [if_pos hc, obind2_sm]
  have fa : aFieldAddr j (AV.ptr h.length 1 0 0) = some (AV.ptr h.length 1 0 j) := by simp [aFieldAddr]
  rw [fa, obind_sm, ld, dr]
  have ct : cut false 1 (x :: cs.drop (j + 1)) = some x := by simp [cut]
  rw [ct, obind_sm, he]
  show obind2 (f [x, iv k] _) _ = _
  rw [f1, obind2_sm]

end Go.Proofs.Ytokbncnochagaaa
