import Derived.Test.YtcdahloanikigaaFnExactSentenceCostGen
namespace Go.Proofs.Ytcdahloanikigaa
open Go Go.Eng Go.Eng.Cod
set_option maxRecDepth 100000
set_option linter.unusedVariables false
set_option linter.unusedSimpArgs false
theorem nil_ok : kCk Try.prog (kBw []) := E0
def kB5 (a b c : Int) : Bool := decide (b ≤ a) && decide (a ≤ c)
theorem ok_q23 : kAi Try.prog n_q23 (T3 kB5) := pureT3 nil_ok kBb hb_q23 fun a b c => by
  simp [e_q23, kB5]
theorem ok_q68 : kAi Try.prog kFk (T3 kB5) := pureT3 nil_ok kBb hb_q68 fun a b c => by
  simp [e_q68, kB5]
def validBox (b : Box) : Bool := kB5 b.x1 0 b.x2 && kB5 b.y1 0 b.y2 && decide (b.x2 ≤ 4095) && decide (b.y2 ≤ 4095)
theorem ok_q50 : kAi Try.prog n_q50 (T1 fun b : Bigram => b) := kHz E0 kBb hb_q50 fun b => by
  simp [e_q50, kBw, kCp, kAc, cut, kBj, kBk, retL, resL, pack]
theorem ok_q28 : kAi Try.prog n_q28 (T2 fun a b : Bigram => decide (a = b)) := pureT2 E0 kBb hb_q28 fun a b => by
  simp [e_q28, kBw, kCp, kAc, cut]
  obtain ⟨a0, a1, a2⟩ := a
  obtain ⟨b0, b1, b2⟩ := b
  simp
def names : List ByteArray := [⟨#[110, 111, 110, 101]⟩, ⟨#[114, 105, 103, 104, 116]⟩, ⟨#[97, 98, 111, 118, 101]⟩, ⟨#[98, 101, 108, 111, 119]⟩, ⟨#[117, 112, 112, 101, 114]⟩, ⟨#[108, 111, 119, 101, 114]⟩, ⟨#[105, 110, 115, 105, 100, 101]⟩]
@[simp] theorem names_len : names.length = 7 := rfl
def find (s : ByteArray) : List ByteArray → Nat → Int
  | [], _ => -1
  | x :: r, i => bif decide (x = s) then (i : Int) else find s r (i + 1)
def kEb (b : UInt8) : Bool := decide ((97 : Int) ≤ (b.toNat : Int)) && decide ((b.toNat : Int) ≤ 122)
theorem ok_q15 : kAi Try.prog n_q15 (T1 kEb) := kHz E0 kBb hb_q15 fun b => by
  simp [e_q15, kEb]
theorem ok_q69 : kAi Try.prog kHa (T1 kEb) := kHz E0 kBb hb_q69 fun b => by
  simp [e_q69, kEb]
def kEp (s : ByteArray) : Bool := (bl s).all kEb && (decide (1 ≤ s.size) && decide (s.size ≤ 10))
theorem ok_q14 : kAi Try.prog n_q14 (T1 fun y => kB5 y 0 1000000) := kHz (E1 ok_q23) kBb hb_q14 fun y => by
  simp [e_q14, kBw]
def isFirst (s : ByteArray) : Bool := decide (s = ⟨#[]⟩) || kEp s
def kC6 (b : Bigram) : Bool := kEp b.second && (isFirst b.first && kB5 b.cost 0 1000000)
def kBu (a b : Bigram) : Bool := ltS a.first b.first || (decide (a.first = b.first) && ltS a.second b.second)
def beforeAt (l : List Bigram) (i j : Nat) : Bool := match l[i]?, l[j]? with
  | some a, some b => kBu a b
  | _, _ => false
def cmpS (a b : ByteArray) : Int := bif ltS a b then -1 else bif decide (a = b) then 0 else 1
theorem ok_q4 : kAi Try.prog n_q4 (T1 fun _ : ByteArray => false) := kHz E0 kBb hb_q4 fun a => by
  simp [e_q4]
theorem ok_q1 : kAi Try.prog n_q1 (T2 cmpS) := pureT2 (E1 ok_q4) kBb hb_q1 fun a b => by
  cases w1 : ltS a b <;> by_cases w2 : a = b <;> simp [e_q1, kBw, cmpS, w1, w2]
  all_goals simp_all
def orI : List Int → Int
  | [] => 0
  | a :: l => bif decide (a = 0) then orI l else a
theorem lp_q2 (env : Nat → Contract) {y0 y1 y4 y17 : AV} (q : Sl Int) (hq : fit q = true) :
    (kA0 (kB3 hm0_q2 xm0_q2 (lb0_q2 env) [y0, y1, .top, iv 0, y4, .top, Sl.enc q, iv ((q.getD []).length : Nat), iv 0, .top, .top, .top, .top, .top, .top, .top, .top, y17] []) fun r => lk0_q2 env r.1 r.2.1 r.2.2) = some (iv (orI (q.getD [])), []) := by
  have T := lookT q (w := 1) rfl
  have L := loop_over (q.getD []) (fit_max hq) (hmk := hm0_q2) (xm := xm0_q2) (body := lb0_q2 env) (K := fun r => lk0_q2 env r.1 r.2.1 r.2.2) (σ := Unit) (fun _ (i : Nat) => [y0, y1, .top, iv 0, y4, .top, Sl.enc q, iv ((q.getD []).length : Nat), iv (i : Nat), .top, .top, .top, .top, .top, .top, .top, .top, y17]) (fun _ => [])
    (fun _ _ => True) (fun _ suf => some (iv (orI suf), []))
    (fun pre k suf u hl hi S => by
      by_cases hk : k = 0
      · right
        refine ⟨(), trivial, ?_, by simp [orI, hk]⟩
        rw [kB3.eq_1]
        simp [e_lb0_q2, T.len, T.idx, T.load, S.idx, S.lt, S.elt, cut, S.wr, hk, restr]
      · left
        rw [kB3.eq_1]
        simp [e_lb0_q2, T.len, T.idx, T.load, S.idx, S.lt, S.elt, cut, S.wr, hk, restr, e_lk0r_q2, orI])
    (fun u hi => by
      rw [kB3.eq_1]
      simp [e_lb0_q2, T.len, restr, e_lk0x0_q2, orI]) () trivial
  simpa using L
theorem ok_q2 : kAi Try.prog n_q2 (G1 (fun q : Sl Int => fit q) fun q => iv (orI (q.getD []))) :=
  pureG1 E0 kBb hb_q2 fun q hq => by
  have T := lookT q (w := 1) rfl
  have L := fun env {y0 y1 y4 y17} => @lp_q2 env y0 y1 y4 y17 q hq
  simp [e_q2, T.len, L]
def cmpB (a b : Bigram) : Int := orI [cmpS a.first b.first, cmpS a.second b.second]
theorem cmpB_before (a b : Bigram) : decide (0 ≤ cmpB a b) = !kBu a b := by
  unfold cmpB kBu cmpS orI orI orI
  cases ltS a.first b.first <;> by_cases h : a.first = b.first <;> cases ltS a.second b.second <;> by_cases h2 : a.second = b.second <;> simp [h, h2]
theorem ok_q11 : kAi Try.prog kGn (T2 cmpB) := pureT2 (E2 ok_q1 ok_q2) kBb hb_q11 fun a b => by
  have S := fun (M N : AObj) => snapD_sl (A := Int) [M, N, ⟨1, [[iv (cmpS a.first b.first)], [iv (cmpS a.second b.second)]]⟩] (o := 2) (ep := 2) (n := 2) [cmpS a.first b.first, cmpS a.second b.second] rfl rfl rfl
  have f : fit (some [cmpS a.first b.first, cmpS a.second b.second] : Sl Int) = true := rfl
  simp [e_q11, kBw, kCp, kAc, cut, kCg, kHi, kE1, S, f, cmpB]
theorem kDk : kAi Try.prog kC9 (T2 kFu) :=
  pure_indexByte (fn := Try.f240) Try.func240 (by kernel_rfl) (by kernel_rfl) (by kernel_rfl) (by kernel_rfl)
theorem ok_q26 : kAi Try.prog n_q26 (T2 kFu) := pureT2 (E1 kDk) kBb hb_q26 fun s b => by
  simp [e_q26, kBw]
def byte0 (t : ByteArray) : UInt8 := (bl t).headD 0
theorem one_byte {t : ByteArray} (h : t.size = 1) : bl t = [byte0 t] := by
  have : (bl t).length = 1 := by rw [bl_len, h]
  match hb : bl t, this with
  | [b], _ => simp [byte0, hb]
theorem ok_q25 : kAi Try.prog n_q25 (G2 (fun _ t : ByteArray => decide (t.size = 1)) fun s t => iv (kFu s (byte0 t))) :=
  pureG2 (E1 ok_q26) kBb hb_q25 fun s t h => by
  have h1 : t.size = 1 := of_decide_eq_true h
  have h2 : kB4 .str (sv t) = some (iv 1) := by rw [aLenK_str, h1]; rfl
  have h3 : kCx .eql .plain (iv 1) (iv 0) = some (bv false) := rfl
  have h4 : kCx .eql .plain (iv 1) (iv 1) = some (bv true) := rfl
  have h5 : kCe (sv t) (iv 0) = some (bt (byte0 t)) := by
    rw [idx_str, h1, one_byte h1]
    rfl
  rw [e_q25]
  simp only [enc_str, h2, kA6, h3, guardB_false, cond_false, kEq, kCb, aPick_bv, condB_bv]
  by_cases e : t = s
  · subst e
    have e0 : kFu t (byte0 t) = 0 := by
      obtain ⟨⟨l⟩⟩ := t
      match l, h1 with
      | [b], _ => 
        show (match (List.range 1).find? (fun i => (⟨#[b]⟩ : ByteArray)[i]! == b) with | some i => (i : Int) | none => -1) = 0
        have : ((⟨#[b]⟩ : ByteArray)[0]! == b) = true := by
          have : (⟨#[b]⟩ : ByteArray)[0]! = b := rfl
          rw [this]
          simp
        simp [List.range_succ, this]
    simp only [decide_true, cond_true, kA6, release_iv, e0]
  · simp only [e, decide_false, cond_false, h4, kA6, cond_true, h5]
    simp [kBw]
theorem ok_q86 : kAi Try.prog n_q86 (G2 (fun _ t : ByteArray => decide (t.size = 1)) fun s t => iv (kFu s (byte0 t))) :=
  pureG2 (E1 ok_q25) kBb hb_q86 fun s t h => by
  simp [e_q86, kBw, of_decide_eq_true h]
theorem ok_q85 : kAi Try.prog n_q85 (G2 (fun _ t : ByteArray => decide (t.size = 1)) fun s t => bv (decide (0 ≤ kFu s (byte0 t)))) :=
  pureG2 (E1 ok_q86) kBb hb_q85 fun s t h => by
  simp [e_q85, kBw, of_decide_eq_true h]
def labelB (b : UInt8) : Bool := decide ((b.toNat : Int) = 43) || (decide ((b.toNat : Int) = 45) || (decide ((b.toNat : Int) = 42) || (decide ((b.toNat : Int) = 47) || (decide ((b.toNat : Int) = 61) || (decide ((b.toNat : Int) = 40) || (decide ((b.toNat : Int) = 41) || (decide ((b.toNat : Int) = 46) || (decide ((b.toNat : Int) = 44) ||
  (kEb b || (decide ((48 : Int) ≤ (b.toNat : Int)) && decide ((b.toNat : Int) ≤ 57)))))))))))
def labelSet : ByteArray := ⟨#[48, 49, 50, 51, 52, 53, 54, 55, 56, 57, 43, 45, 42, 47, 61, 40, 41, 46, 44]⟩
theorem label_all : ∀ n : Fin 256, (kEb (UInt8.ofNat n.val) || decide (0 ≤ kFu labelSet (UInt8.ofNat n.val))) = labelB (UInt8.ofNat n.val) := by decide +kernel
theorem label_eq (b : UInt8) : (kEb b || decide (0 ≤ kFu labelSet b)) = labelB b := by
  have := label_all ⟨b.toNat, b.toNat_lt⟩
  simpa using this
def kCu (s : ByteArray) : Bool := decide (s.size = 1) && labelB (byte0 s)
theorem ok_q70 : kAi Try.prog n_q70 (T1 labelB) := kHz (E1 ok_q69) kBb hb_q70 fun b => by
  cases hw : kEb b <;> simp [e_q70, kBw, labelB, hw]
  all_goals cases decide ((48 : Int) ≤ (b.toNat : Int)) <;> simp
  all_goals
    congr 1
    generalize decide ((b.toNat : Int) = 43) = c43
    generalize decide ((b.toNat : Int) = 45) = c45
    generalize decide ((b.toNat : Int) = 42) = c42
    generalize decide ((b.toNat : Int) = 47) = c47
    generalize decide ((b.toNat : Int) = 61) = c61
    generalize decide ((b.toNat : Int) = 40) = c40
    generalize decide ((b.toNat : Int) = 41) = c41
    generalize decide ((b.toNat : Int) = 46) = c46
    generalize decide ((b.toNat : Int) = 44) = c44
    generalize decide ((b.toNat : Int) ≤ 57) = d
    revert c43 c45 c42 c47 c61 c40 c41 c46 c44 d
    decide +kernel
theorem ok_q5 : kAi Try.prog n_q5 (T1 kCu) := kHz (E2 ok_q15 ok_q85) kBb hb_q5 fun s => by
  by_cases h1 : s.size = 1
  · have h5 : kCe (sv s) (iv 0) = some (bt (byte0 s)) := by
      rw [idx_str, h1, one_byte h1]
      rfl
    have hl := label_eq (byte0 s)
    unfold labelSet at hl
    cases hw : kEb (byte0 s)
    · rw [hw] at hl
      simp at hl
      simp [e_q5, kBw, h5, h1, hw, kCu, hl]
    · rw [hw] at hl
      simp at hl
      simp [e_q5, kBw, h5, h1, hw, kCu, hl]
  · have h2 : ¬ ((s.size : Nat) : Int) = 1 := by omega
    simp [e_q5, h2, h1, kCu]
theorem ok_q65 : kAi Try.prog n_q65 (T1 kCu) := kHz (E1 ok_q70) kBb hb_q65 fun s => by
  by_cases h1 : s.size = 1
  · have h5 : kCe (sv s) (iv 0) = some (bt (byte0 s)) := by
      rw [idx_str, h1, one_byte h1]
      rfl
    simp [e_q65, kBw, h5, h1, kCu]
  · have h2 : ¬ ((s.size : Nat) : Int) = 1 := by omega
    simp [e_q65, h2, h1, kCu]
structure U64 where
  val : Nat
instance : Cod U64 where
  enc u := .sc (.int .u64 (u.val : Int))
  dec | .sc (.int .u64 n) => if 0 ≤ n then some ⟨n.toNat⟩ else none
      | _ => none
  de u := by simp
  ed x a h := by
    split at h
    · split at h
      · rename_i n hn
        cases h
        simp only
        congr 2
        omega
      · cases h
    · cases h
theorem less_irr : ∀ x : List UInt8, Op.bytesLess x x = false
  | [] => rfl
  | a :: x => by simp [Op.bytesLess, less_irr x]
theorem less_trans : ∀ x y z : List UInt8, Op.bytesLess x y = true → Op.bytesLess y z = true → Op.bytesLess x z = true
  | _, _, [], _, h => by cases ‹List UInt8› <;> simp [Op.bytesLess] at h
  | _, [], _ :: _, h, _ => by simp [Op.bytesLess] at h
  | [], _ :: _, _ :: _, _, _ => by simp [Op.bytesLess]
  | a :: x, b :: y, c :: z, h1, h2 => by
    simp only [Op.bytesLess, Bool.or_eq_true, decide_eq_true_eq, Bool.and_eq_true, beq_iff_eq] at h1 h2 ⊢
    rcases h1 with h1 | ⟨rfl, h1⟩
    · rcases h2 with h2 | ⟨rfl, h2⟩
      · left
        rw [UInt8.lt_iff_toNat_lt] at *
        omega
      · left; exact h1
    · rcases h2 with h2 | ⟨rfl, h2⟩
      · left; exact h2
      · right; exact ⟨rfl, less_trans x y z h1 h2⟩
theorem kHc (a : ByteArray) : ltS a a = false := less_irr _
theorem kF3 {a b c : ByteArray} (h1 : ltS a b = true) (h2 : ltS b c = true) : ltS a c = true := less_trans _ _ _ h1 h2
theorem before_iff (a b : Bigram) : kBu a b = true ↔ ltS a.first b.first = true ∨ (a.first = b.first ∧ ltS a.second b.second = true) := by simp [kBu]
theorem before_trans {a b c : Bigram} (h1 : kBu a b = true) (h2 : kBu b c = true) : kBu a c = true := by
  rw [before_iff] at *
  rcases h1 with h1 | ⟨e1, h1⟩
  · rcases h2 with h2 | ⟨e2, h2⟩
    · exact .inl (kF3 h1 h2)
    · exact .inl (e2 ▸ h1)
  · rcases h2 with h2 | ⟨e2, h2⟩
    · exact .inl (e1 ▸ h2)
    · exact .inr ⟨e1.trans e2, kF3 h1 h2⟩
def kFy (a b : Bigram) : Bool := decide (a.first = b.first) && decide (a.second = b.second)
theorem sameB_not {a b : Bigram} (h : kFy a b = true) : kBu a b = false := by
  simp [kFy] at h
  simp [kBu, h.1, h.2, kHc]
theorem sameB_before {a b c : Bigram} (h : kFy b c = true) : kBu a b = kBu a c := by
  simp [kFy] at h
  simp [kBu, h.1, h.2]
theorem cmpB_zero (a b : Bigram) : decide (cmpB a b = 0) = kFy a b := by
  unfold cmpB cmpS orI orI orI kFy
  by_cases h : a.first = b.first <;> by_cases h2 : a.second = b.second
  · simp [h, h2, kHc]
  · cases ltS a.second b.second <;> simp [h, h2, kHc]
  · cases ltS a.first b.first <;> simp [h]
  · cases ltS a.first b.first <;> simp [h]
def srtB (l : List Bigram) : Bool := (List.range l.length).all fun i => decide (i = 0) || beforeAt l (i - 1) i
theorem srt_of {l : List Bigram} (h : srtB l = true) : ∀ (j i : Nat) (hj : j < l.length) (hi : i < j), kBu (l[i]'(by omega)) l[j] = true := by
  have h1 : ∀ i, i < l.length → i = 0 ∨ beforeAt l (i - 1) i = true := by
    intro i hi
    have := List.all_eq_true.1 h i (by simp [hi])
    simpa using this
  intro j
  induction j with
  | zero => intro i hj hi; omega
  | succ j ih =>
    intro i hj hi
    have h2 : kBu (l[j]'(by omega)) l[j + 1] = true := by
      rcases h1 (j + 1) hj with e | e
      · omega
      · have hj' : j < l.length := by omega
        simpa [beforeAt, hj, hj'] using e
    by_cases e : i = j
    · subst e; exact h2
    · exact before_trans (ih i (by omega) (by omega)) h2
def posB (l : List Bigram) (t : Bigram) : Nat := (l.takeWhile fun a => kBu a t).length
theorem pos_le (l : List Bigram) (t : Bigram) : posB l t ≤ l.length := (List.takeWhile_prefix _).length_le
theorem pos_ok {l : List Bigram} (h : srtB l = true) (t : Bigram) {m : Nat} (hm : m < l.length) : kBu l[m] t = decide (m < posB l t) := by
  have key : ∀ (l : List Bigram) (p : Bigram → Bool) (m : Nat) (hm : m < l.length), m < (l.takeWhile p).length → p l[m] = true := by
    intro l p
    induction l with
    | nil => intro m hm; simp at hm
    | cons a l ih =>
      intro m hm hw
      cases hp : p a
      · simp [hp] at hw
      · cases m with
        | zero => simpa using hp
        | succ m =>
          simp only [List.takeWhile_cons, hp, if_true, List.length_cons] at hw
          simpa using ih m (by simpa using hm) (by omega)
  have key2 : ∀ (l : List Bigram) (p : Bigram → Bool) (hm : (l.takeWhile p).length < l.length), p (l[(l.takeWhile p).length]'hm) = false := by
    intro l p
    induction l with
    | nil => intro hm; simp at hm
    | cons a l ih =>
      intro hw
      cases hp : p a
      · simp [hp]
      · have hw' : (l.takeWhile p).length < l.length := by
          simp only [List.takeWhile_cons, hp, if_true, List.length_cons] at hw
          omega
        simpa [hp] using ih hw'
  by_cases hp : m < posB l t
  · rw [key l _ m hm hp]
    simp [hp]
  · have hq : posB l t < l.length := by omega
    have e := key2 l (fun a => kBu a t) hq
    simp only [hp, decide_false]
    cases hb : kBu l[m] t
    · rfl
    · exfalso
      by_cases e2 : posB l t = m
      · have : kBu (l[posB l t]'hq) t = true := by simpa [e2] using hb
        have e' : kBu (l[posB l t]'hq) t = false := e
        rw [this] at e'
        cases e'
      · have := before_trans (srt_of h m (posB l t) hm (by omega)) hb
        have e' : kBu (l[posB l t]'hq) t = false := e
        rw [this] at e'
        cases e'
def hitB (l : List Bigram) (t : Bigram) : Bool := match l[posB l t]? with
  | some b => kFy b t
  | none => false
theorem hit_find {l : List Bigram} (h : srtB l = true) (t : Bigram) : l.find? (fun b => kFy b t) = bif hitB l t then l[posB l t]? else none := by
  unfold hitB
  by_cases hp : posB l t < l.length
  · simp only [List.getElem?_eq_getElem hp]
    cases hs : kFy l[posB l t] t
    · simp only [cond_false]
      rw [List.find?_eq_none]
      intro x hx
      obtain ⟨j, hj, rfl⟩ := List.getElem_of_mem hx
      intro hsame
      rcases Nat.lt_trichotomy j (posB l t) with e | e | e
      · have h1 := pos_ok h t hj
        rw [sameB_not hsame] at h1
        simp [e] at h1
      · subst e; rw [hs] at hsame; cases hsame
      · have h1 := srt_of h j (posB l t) hj e
        rw [sameB_before hsame] at h1
        have h2 := pos_ok h t hp
        rw [h1] at h2
        simp at h2
    · simp only [cond_true]
      rw [List.find?_eq_some_iff_getElem]
      refine ⟨hs, posB l t, hp, rfl, fun j hj => ?_⟩
      have h1 := pos_ok h t (m := j) (by omega)
      cases hq : kFy l[j] t
      · rfl
      · rw [sameB_not hq] at h1
        simp [hj] at h1
  · have e : l[posB l t]? = none := List.getElem?_eq_none (by omega)
    rw [e]
    simp only [cond_false]
    rw [List.find?_eq_none]
    intro x hx
    obtain ⟨j, hj, rfl⟩ := List.getElem_of_mem hx
    intro hsame
    have h1 := pos_ok h t hj
    rw [sameB_not hsame] at h1
    have : j < posB l t := by omega
    simp [this] at h1
def kI5 (m : Model) (f s : ByteArray) : Int := match (m.bigrams.getD []).find? (fun b => kFy b ⟨f, s, 0⟩) with
  | some b => b.cost
  | none => m.default
def cmpI (a b : Int) : Int := bif decide (a < b) then -1 else bif decide (b < a) then 1 else 0
theorem ok_q3 : kAi Try.prog n_q3 (T1 fun _ : Int => false) := kHz E0 kBb hb_q3 fun a => by
  simp [e_q3]
theorem ok_q0 : kAi Try.prog n_q0 (T2 cmpI) := pureT2 (E1 ok_q3) kBb hb_q0 fun a b => by
  by_cases w1 : a < b <;> by_cases w2 : b < a <;> simp [e_q0, kBw, cmpI, w1, w2]
def t_q39 (a_ : Bigram) (left_ : Int) : Option Int :=
  bif decide ((wr (left_ - (a_.first.size : Int))) < 0) then
    some (-1)
  else
    bif decide ((wr ((wr (left_ - (a_.first.size : Int))) - (a_.second.size : Int))) < 0) then
      some (-1)
    else
      some (wr ((wr (left_ - (a_.first.size : Int))) - (a_.second.size : Int)))
theorem ts_q39 (env : Nat → Contract)  (a_ : Bigram) (left_ : Int) : Sim (kAl Try.prog env n_q39 [AV.agg [sv a_.first, sv a_.second, iv a_.cost], iv left_] []) (t_q39 a_ left_) fun c p => release p.2 depth p.1 = some ((fun c : Int => enc c) c) := by
  have O := Hold.nil []
  generalize hB : (⟨[], []⟩ : Base) = B at O
  clear hB
  rw [e_q39]
  unfold t_q39
  refine kAv O (cs := [sv a_.first, sv a_.second, iv a_.cost]) (by first | rfl | simp) (fun o1 h2 O3 => ?_)
  replace O3 : Hold B h2 [(AV.ptr o1 1 0 0, .pt 3 [sv a_.first, sv a_.second, iv a_.cost])] := O3
  refine kA1 (v := AV.ptr o1 1 0 0) rfl ?_
  refine kA1 (v := sv a_.first) (O3.ld 0 rfl false 1 0) ?_
  refine kA1 (v := iv (a_.first.size : Int)) rfl ?_
  refine kA1 (v := iv (wr (left_ - (a_.first.size : Int)))) (kC4 _ _) ?_
  refine kA1 (v := bv (decide ((wr (left_ - (a_.first.size : Int))) < 0))) (kAh _ _) ?_
  refine kAa (fun c5 => ?_) (fun c5 => ?_)
  · exact kA5 (kA3 (by rfl) _)
  · refine kA1 (v := AV.ptr o1 1 0 1) rfl ?_
    refine kA1 (v := sv a_.second) (O3.ld 0 rfl false 1 1) ?_
    refine kA1 (v := iv (a_.second.size : Int)) rfl ?_
    refine kA1 (v := iv (wr ((wr (left_ - (a_.first.size : Int))) - (a_.second.size : Int)))) (kC4 _ _) ?_
    refine kA1 (v := bv (decide ((wr ((wr (left_ - (a_.first.size : Int))) - (a_.second.size : Int))) < 0))) (kAh _ _) ?_
    refine kAa (fun c6 => ?_) (fun c6 => ?_)
    · exact kA5 (kA3 (by rfl) _)
    · exact kA5 (kA3 (by rfl) _)
theorem tt_q39 : kAi Try.prog n_q39 (C2 (fun c : Int => enc c) t_q39) := kC2 E0 kBb hb_q39 fun a_ left_ => ts_q39 _  a_ left_
def s0_q40 (a_ : Sl Bigram) : (Int × Int) → Option (Sum (Int × Int) (Sum Int Int)) := fun (w4, w5) =>
  bif decide (w5 < (((a_.getD []).length : Nat) : Int)) then
    kA0 (kC1 (a_.getD []) w5) fun a17 =>
    kA0 (t_q39 a17 w4) fun c21 =>
    bif decide (c21 < 0) then
      some (.inr (.inr (-1)))
    else
      some (.inl (c21, wr (w5 + 1)))
  else
    some (.inr (.inl w4))
def t_q40 (a_ : Sl Bigram) (left_ : Int) : Option Int :=
  bif decide ((wr (left_ - (((a_.getD []).length : Nat) : Int))) < 0) then
    some (-1)
  else
    kA0 (kAw (s0_q40 a_) (wr (left_ - (((a_.getD []).length : Nat) : Int)), 0)) fun qq27 => match qq27 with
    | (.inl q8) =>
        some q8
    | (.inr q14) =>
        some q14
theorem tl0_q40 (env : Nat → Contract) {B : Base} (he_q39 : env n_q39 = .pure (C2 (fun c : Int => enc c) t_q39)) (a_ : Sl Bigram) (left_ : Int)  {st : Int × Int} {tm : TM} {h : kA7} (R : (fun (st : Int × Int) tm h2 => match st with | (w4, w5) => tm = [Sl.enc a_, iv w4, und, und, .top, iv w5, iv left_, Sl.enc a_, iv (((a_.getD []).length : Nat) : Int), iv (wr (left_ - (((a_.getD []).length : Nat) : Int))), iv (wr (left_ - (((a_.getD []).length : Nat) : Int))), bv (decide ((wr (left_ - (((a_.getD []).length : Nat) : Int))) < 0)), .top, .top, .top, .top, .top, .top, .top, .top, .top, .top, .top, .top, .top, .top, und] ∧ Hold B h2 []) st tm h) : Sim (kB3 hm0_q40 xm0_q40 (lb0_q40 env) tm h) (kAw (s0_q40 a_) st) (fun (q : Sum Int Int) (r : Res) => match q with | .inl q8 => ∃ (q10 : Int) (z9 : AV) (h6 : kA7), r = (.exit 0, [Sl.enc a_, iv q8, und, und, z9, iv q10, iv left_, Sl.enc a_, iv (((a_.getD []).length : Nat) : Int), iv (wr (left_ - (((a_.getD []).length : Nat) : Int))), iv (wr (left_ - (((a_.getD []).length : Nat) : Int))), bv (decide ((wr (left_ - (((a_.getD []).length : Nat) : Int))) < 0)), .top, .top, .top, .top, .top, .top, .top, .top, .top, .top, .top, .top, .top, .top, und], h6) ∧ Hold B h6 [] | .inr q14 => ∃ (q13 : Int) (q15 : Int) (h11 : kA7), r = (.ret, [Sl.enc a_, iv q13, und, und, iv q14, iv q15, iv left_, Sl.enc a_, iv (((a_.getD []).length : Nat) : Int), iv (wr (left_ - (((a_.getD []).length : Nat) : Int))), iv (wr (left_ - (((a_.getD []).length : Nat) : Int))), bv (decide ((wr (left_ - (((a_.getD []).length : Nat) : Int))) < 0)), .top, .top, .top, .top, .top, .top, .top, .top, .top, .top, .top, .top, .top, .top, und], h11) ∧ Hold B h11 []) := by
  refine kB1 (Rel := fun (st : Int × Int) tm h2 => match st with | (w4, w5) => tm = [Sl.enc a_, iv w4, und, und, .top, iv w5, iv left_, Sl.enc a_, iv (((a_.getD []).length : Nat) : Int), iv (wr (left_ - (((a_.getD []).length : Nat) : Int))), iv (wr (left_ - (((a_.getD []).length : Nat) : Int))), bv (decide ((wr (left_ - (((a_.getD []).length : Nat) : Int))) < 0)), .top, .top, .top, .top, .top, .top, .top, .top, .top, .top, .top, .top, .top, .top, und] ∧ Hold B h2 []) (fun st tm h2 R => ?_) R
  obtain ⟨w4, w5⟩ := st
  obtain ⟨rfl, O3⟩ := R
  rw [e_lb0_q40]
  unfold s0_q40
  dsimp only
  refine kA1 (v := iv (((a_.getD []).length : Nat) : Int)) (Tab.enc h2 a_).len ?_
  refine kA1 (v := bv (decide (w5 < (((a_.getD []).length : Nat) : Int)))) (kAh _ _) ?_
  refine kAa (fun c16 => ?_) (fun c16 => ?_)
  · refine kAo (Tab.enc h2 a_) (fun m18 a17 hi19 hm20 => ?_)
    refine kA1 (v := AV.agg [sv a17.first, sv a17.second, iv a17.cost]) ((Tab.enc h2 a_).ld hm20 true 3 0) ?_
    refine kBg he_q39 (kAu _ a17 rfl) (kAr _ _) (fun c21 => ?_)
    refine kAm (kAb (by rfl) _ _) ?_
    refine kA1 (v := bv (decide (c21 < 0))) (kAh _ _) ?_
    refine kAa (fun c22 => ?_) (fun c22 => ?_)
    · exact kA5 ⟨nofun, _, _, _, rfl, O3⟩
    · refine kA1 (v := iv (wr (w5 + 1))) (kAk _ _) ?_
      exact kA5 ⟨rfl, rfl, O3⟩
  · exact kA5 ⟨nofun, _, _, _, rfl, O3⟩
theorem ts_q40 (env : Nat → Contract) (he_q39 : env n_q39 = .pure (C2 (fun c : Int => enc c) t_q39)) (a_ : Sl Bigram) (left_ : Int) : Sim (kAl Try.prog env n_q40 [Sl.enc a_, iv left_] []) (t_q40 a_ left_) fun c p => release p.2 depth p.1 = some ((fun c : Int => enc c) c) := by
  have O := Hold.nil []
  generalize hB : (⟨[], []⟩ : Base) = B at O
  clear hB
  rw [e_q40]
  unfold t_q40
  refine kA1 (v := iv (((a_.getD []).length : Nat) : Int)) (Tab.enc [] a_).len ?_
  refine kA1 (v := iv (wr (left_ - (((a_.getD []).length : Nat) : Int)))) (kC4 _ _) ?_
  refine kA1 (v := bv (decide ((wr (left_ - (((a_.getD []).length : Nat) : Int))) < 0))) (kAh _ _) ?_
  refine kAa (fun c1 => ?_) (fun c1 => ?_)
  · exact kA5 (kA3 (by rfl) _)
  · refine kB0 ((tl0_q40 env he_q39 a_ left_) ⟨rfl, O⟩) (fun qq27 r hq => ?_)
    rcases qq27 with q8 | q14
    · obtain ⟨q10, z9, h6, rfl, O7⟩ := hq
      rw [e_lk0x0_q40]
      exact kA5 (kA3 (by rfl) _)
    · obtain ⟨q13, q15, h11, rfl, O12⟩ := hq
      rw [e_lk0r_q40]
      exact kA5 (kA3 (by rfl) _)
theorem tt_q40 : kAi Try.prog n_q40 (C2 (fun c : Int => enc c) t_q40) := kC2 (kB7 tt_q39 E0) kBb hb_q40 fun a_ left_ => ts_q40 _ (by simp [kBw]) a_ left_
def t_q48 (a_ : Model) (left_ : Int) : Option Int :=
  kA0 (t_q40 a_.bigrams left_) fun c5 =>
  bif decide (c5 < 0) then
    some (-1)
  else
    some c5
theorem ts_q48 (env : Nat → Contract) (he_q40 : env n_q40 = .pure (C2 (fun c : Int => enc c) t_q40)) (a_ : Model) (left_ : Int) : Sim (kAl Try.prog env n_q48 [AV.agg [iv a_.default, Sl.enc a_.bigrams], iv left_] []) (t_q48 a_ left_) fun c p => release p.2 depth p.1 = some ((fun c : Int => enc c) c) := by
  have O := Hold.nil []
  generalize hB : (⟨[], []⟩ : Base) = B at O
  clear hB
  rw [e_q48]
  unfold t_q48
  refine kAv O (cs := [iv a_.default, Sl.enc a_.bigrams]) (by first | rfl | simp) (fun o1 h2 O3 => ?_)
  replace O3 : Hold B h2 [(AV.ptr o1 1 0 0, .pt 2 [iv a_.default, Sl.enc a_.bigrams])] := O3
  refine kA1 (v := AV.ptr o1 1 0 1) rfl ?_
  refine kA1 (v := Sl.enc a_.bigrams) (O3.ld 0 rfl false 1 1) ?_
  refine kBg he_q40 (kB9 _ _) (kAr _ _) (fun c5 => ?_)
  refine kAm (kAb (by rfl) _ _) ?_
  refine kA1 (v := bv (decide (c5 < 0))) (kAh _ _) ?_
  refine kAa (fun c6 => ?_) (fun c6 => ?_)
  · exact kA5 (kA3 (by rfl) _)
  · exact kA5 (kA3 (by rfl) _)
theorem tt_q48 : kAi Try.prog n_q48 (C2 (fun c : Int => enc c) t_q48) := kC2 (kB7 tt_q40 E0) kBb hb_q48 fun a_ left_ => ts_q48 _ (by simp [kBw]) a_ left_
def s0_q51 (a_ : Sl Bigram) : ((Sl Bigram) × Int) → Option (Sum ((Sl Bigram) × Int) (Sl Bigram)) := fun (w6, w9) =>
  bif decide (w9 < (((a_.getD []).length : Nat) : Int)) then
    kA0 (kC1 (a_.getD []) w9) fun a15 =>
    kA0 (some ((fun b : Bigram => b) a15)) fun c19 =>
    kA0 (kC1 (w6.getD []) w9) fun a20 =>
    some (.inl ((kGk w6 w9 c19), wr (w9 + 1)))
  else
    some (.inr w6)
def t_q51 (a_ : Sl Bigram) : Option (Sl Bigram) :=
  kA0 (kH8 (⟨(⟨#[]⟩ : ByteArray), (⟨#[]⟩ : ByteArray), 0⟩ : Bigram) (((a_.getD []).length : Nat) : Int)) fun l5 =>
  kA0 (kAw (s0_q51 a_) ((some l5), 0)) fun q12 =>
  some q12
theorem tl0_q51 (env : Nat → Contract) {B : Base} (he_q50 : env n_q50 = .pure (T1 (fun b : Bigram => b))) (a_ : Sl Bigram) (x1 : AV)  {st : (Sl Bigram) × Int} {tm : TM} {h : kA7} (R : (fun (st : (Sl Bigram) × Int) tm h7 => match st with | (w6, w9) => tm = [Sl.enc a_, und, kBv, x1, iv w9, Sl.enc a_, iv (((a_.getD []).length : Nat) : Int), x1, .top, .top, .top, .top, .top, .top, .top, .top, .top, .top, .top, .top, .top, .top, und] ∧ Hold B h7 [(x1, obS (w6 : Sl Bigram))]) st tm h) : Sim (kB3 hm0_q51 xm0_q51 (lb0_q51 env) tm h) (kAw (s0_q51 a_) st) (fun (q : Sl Bigram) (r : Res) => match q with | q12 => ∃ (q13 : Int) (h10 : kA7), r = (.exit 0, [Sl.enc a_, und, kBv, x1, iv q13, Sl.enc a_, iv (((a_.getD []).length : Nat) : Int), x1, .top, .top, .top, .top, .top, .top, .top, .top, .top, .top, .top, .top, .top, .top, und], h10) ∧ Hold B h10 [(x1, obS (q12 : Sl Bigram))]) := by
  refine kB1 (Rel := fun (st : (Sl Bigram) × Int) tm h7 => match st with | (w6, w9) => tm = [Sl.enc a_, und, kBv, x1, iv w9, Sl.enc a_, iv (((a_.getD []).length : Nat) : Int), x1, .top, .top, .top, .top, .top, .top, .top, .top, .top, .top, .top, .top, .top, .top, und] ∧ Hold B h7 [(x1, obS (w6 : Sl Bigram))]) (fun st tm h7 R => ?_) R
  obtain ⟨w6, w9⟩ := st
  obtain ⟨rfl, O8⟩ := R
  rw [e_lb0_q51]
  unfold s0_q51
  dsimp only
  refine kA1 (v := iv (((a_.getD []).length : Nat) : Int)) (Tab.enc h7 a_).len ?_
  refine kA1 (v := bv (decide (w9 < (((a_.getD []).length : Nat) : Int)))) (kAh _ _) ?_
  refine kAa (fun c14 => ?_) (fun c14 => ?_)
  · refine kAo (Tab.enc h7 a_) (fun m16 a15 hi17 hm18 => ?_)
    refine kA1 (v := AV.agg [sv a15.first, sv a15.second, iv a15.cost]) ((Tab.enc h7 a_).ld hm18 true 3 0) ?_
    refine kEg (t := (fun b : Bigram => b)) he_q50 (kAu _ a15 rfl) (fun c19 => ?_)
    refine kAo (O8.tab (A := Bigram) (s := w6) 0 rfl) (fun m21 a20 hi22 hm23 => ?_)
    refine kEl (A := Bigram) O8 0 c19 rfl hi22 hm23 rfl (by simp) (by first | rfl | simp) (by first | rfl | simp [kBk]) (fun h24 O25 => ?_)
    replace O25 : Hold B h24 [(x1, obS ((kGk w6 w9 c19) : Sl Bigram))] := O25
    refine kA1 (v := iv (wr (w9 + 1))) (kAk _ _) ?_
    exact kA5 ⟨rfl, rfl, O25⟩
  · exact kA5 ⟨nofun, _, _, rfl, O8⟩
theorem ts_q51 (env : Nat → Contract) (he_q50 : env n_q50 = .pure (T1 (fun b : Bigram => b))) (a_ : Sl Bigram) : Sim (kAl Try.prog env n_q51 [Sl.enc a_] []) (t_q51 a_) fun c p => release p.2 depth p.1 = some ((fun c : (Sl Bigram) => rS c) c) := by
  have O := Hold.nil []
  generalize hB : (⟨[], []⟩ : Base) = B at O
  clear hB
  rw [e_q51]
  unfold t_q51
  refine kA1 (v := iv (((a_.getD []).length : Nat) : Int)) (Tab.enc [] a_).len ?_
  refine kFl (A := Bigram) O (⟨(⟨#[]⟩ : ByteArray), (⟨#[]⟩ : ByteArray), 0⟩ : Bigram) rfl (by decide) (fun l5 x1 h2 O3 => ?_)
  replace O3 : Hold B h2 [(x1, obS ((some l5) : Sl Bigram))] := O3
  refine kB0 ((tl0_q51 env he_q50 a_ x1) ⟨rfl, O3⟩) (fun qq29 r hq => ?_)
  revert hq
  revert qq29
  intro q12 hq
  obtain ⟨q13, h10, rfl, O11⟩ := hq
  rw [e_lk0x0_q51]
  exact kA5 (O11.rel (A := Bigram) (s := q12) 0 rfl)
theorem tt_q51 : kAi Try.prog n_q51 (C1 (fun c : (Sl Bigram) => rS c) t_q51) := kD1 (kB7 ok_q50 E0) kBb hb_q51 fun a_ => ts_q51 _ (by simp [kBw]) a_
def t_q59 (a_ : Model) : Option Model :=
  kA0 (t_q51 a_.bigrams) fun c15 =>
  some (⟨a_.default, c15⟩ : Model)
theorem ts_q59 (env : Nat → Contract) (he_q51 : env n_q51 = .pure (C1 (fun c : (Sl Bigram) => rS c) t_q51)) (a_ : Model) : Sim (kAl Try.prog env n_q59 [AV.agg [iv a_.default, Sl.enc a_.bigrams]] []) (t_q59 a_) fun c p => release p.2 depth p.1 = some ((fun c : Model => AV.agg [iv c.default, rS c.bigrams]) c) := by
  have O := Hold.nil []
  generalize hB : (⟨[], []⟩ : Base) = B at O
  clear hB
  rw [e_q59]
  unfold t_q59
  refine kAv O (cs := [iv a_.default, Sl.enc a_.bigrams]) (by first | rfl | simp) (fun o1 h2 O3 => ?_)
  replace O3 : Hold B h2 [(AV.ptr o1 1 0 0, .pt 2 [iv a_.default, Sl.enc a_.bigrams])] := O3
  refine kAv O3 (cs := [iv 0, kBv]) (by first | rfl | simp) (fun o5 h6 O7 => ?_)
  replace O7 : Hold B h6 [(AV.ptr o1 1 0 0, .pt 2 [iv a_.default, Sl.enc a_.bigrams]), (AV.ptr o5 1 0 0, .pt 2 [iv 0, kBv])] := O7
  refine kAv O7 (cs := [iv 0, kBv]) (by first | rfl | simp) (fun o9 h10 O11 => ?_)
  replace O11 : Hold B h10 [(AV.ptr o1 1 0 0, .pt 2 [iv a_.default, Sl.enc a_.bigrams]), (AV.ptr o5 1 0 0, .pt 2 [iv 0, kBv]), (AV.ptr o9 1 0 0, .pt 2 [iv 0, kBv])] := O11
  refine kA1 (v := AV.ptr o1 1 0 0) rfl ?_
  refine kA1 (v := iv a_.default) (O11.ld 0 rfl false 1 0) ?_
  refine kA1 (v := AV.ptr o9 1 0 0) rfl ?_
  refine kBr O11 2 (cs' := [iv a_.default, kBv]) rfl (by first | rfl | simp) (by simp) (by first | rfl | simp) (by first | rfl | simp [kBk]) (fun h13 O14 => ?_)
  replace O14 : Hold B h13 [(AV.ptr o1 1 0 0, .pt 2 [iv a_.default, Sl.enc a_.bigrams]), (AV.ptr o5 1 0 0, .pt 2 [iv 0, kBv]), (AV.ptr o9 1 0 0, .pt 2 [iv a_.default, kBv])] := O14
  refine kA1 (v := AV.ptr o1 1 0 1) rfl ?_
  refine kA1 (v := Sl.enc a_.bigrams) (O14.ld 0 rfl false 1 1) ?_
  refine kBp he_q51 (kB9 _ _) (fun c15 => ?_)
  refine kGj (A := Bigram) O14 (fun x17 h18 O19 => ?_)
  replace O19 : Hold B h18 [(AV.ptr o1 1 0 0, .pt 2 [iv a_.default, Sl.enc a_.bigrams]), (AV.ptr o5 1 0 0, .pt 2 [iv 0, kBv]), (AV.ptr o9 1 0 0, .pt 2 [iv a_.default, kBv]), (x17, obS (c15 : Sl Bigram))] := O19
  refine kA1 (v := AV.ptr o9 1 0 1) rfl ?_
  refine kBr O19 2 (cs' := [iv a_.default, x17]) rfl (by first | rfl | simp [(O19.one (A := Bigram) (s := c15) 3 rfl).1, (O19.one (A := Bigram) (s := c15) 3 rfl).2]) (by simp) (by first | rfl | simp [(O19.one (A := Bigram) (s := c15) 3 rfl).1, (O19.one (A := Bigram) (s := c15) 3 rfl).2]) (by first | rfl | simp [kBk, (O19.one (A := Bigram) (s := c15) 3 rfl).1, (O19.one (A := Bigram) (s := c15) 3 rfl).2]) (fun h20 O21 => ?_)
  replace O21 : Hold B h20 [(AV.ptr o1 1 0 0, .pt 2 [iv a_.default, Sl.enc a_.bigrams]), (AV.ptr o5 1 0 0, .pt 2 [iv 0, kBv]), (AV.ptr o9 1 0 0, .pt 2 [iv a_.default, x17]), (x17, obS (c15 : Sl Bigram))] := O21
  refine kA1 (v := AV.agg [iv a_.default, x17]) (O21.ld 2 rfl true 2 0) ?_
  refine kBr O21 1 (cs' := [iv a_.default, x17]) rfl (by first | rfl | simp [(O21.one (A := Bigram) (s := c15) 3 rfl).1, (O21.one (A := Bigram) (s := c15) 3 rfl).2]) (by simp) (by first | rfl | simp [(O21.one (A := Bigram) (s := c15) 3 rfl).1, (O21.one (A := Bigram) (s := c15) 3 rfl).2]) (by first | rfl | simp [kBk, (O21.one (A := Bigram) (s := c15) 3 rfl).1, (O21.one (A := Bigram) (s := c15) 3 rfl).2]) (fun h22 O23 => ?_)
  replace O23 : Hold B h22 [(AV.ptr o1 1 0 0, .pt 2 [iv a_.default, Sl.enc a_.bigrams]), (AV.ptr o5 1 0 0, .pt 2 [iv a_.default, x17]), (AV.ptr o9 1 0 0, .pt 2 [iv a_.default, x17]), (x17, obS (c15 : Sl Bigram))] := O23
  refine kHn (resL_c (v := AV.agg [iv a_.default, x17]) (O23.ld 1 rfl true 2 0) (kI1 _)) ?_
  dsimp only [pack]
  have O24 : Hold B h22 [(x17, obS (c15 : Sl Bigram))] := O23.sel [3] (by decide) rfl
  exact kA5 (kGg (by simp only [ids_tup, ids_aggD, ids_agg, ids_iv, ids_bv, ids_sv, ids_bt, ids_nilS, ids_enc, O24.idsD (A := Bigram) (s := c15) 0 rfl, List.map_append, List.map_nil, List.flatMap_cons, List.flatMap_nil, List.append_nil, List.nil_append]; simpa only [List.flatMap_cons, List.flatMap_nil, List.append_nil, List.nil_append] using O24.nd2) (by simp only [rel_tup, rel_aggD, rel_agg, rel_iv, rel_bv, rel_sv, rel_bt, rel_nilS, rel_enc, O24.relD (A := Bigram) (s := c15) 0 rfl, omapc, omapn, kA6] <;> rfl))
theorem tt_q59 : kAi Try.prog n_q59 (C1 (fun c : Model => AV.agg [iv c.default, rS c.bigrams]) t_q59) := kD1 (kB7 tt_q51 E0) kBb hb_q59 fun a_ => ts_q59 _ (by simp [kBw]) a_
def s0_q66 (s_ : ByteArray) : Int → Option (Sum Int (Sum Unit Bool)) := fun w3 =>
  bif decide (w3 < (s_.size : Int)) then
    kA0 (getB s_ w3) fun b14 =>
    kA0 (some (kEb b14)) fun c15 =>
    bif !c15 then
      some (.inr (.inr false))
    else
      some (.inl (wr (w3 + 1)))
  else
    some (.inr (.inl ()))
def t_q66 (s_ : ByteArray) : Option Bool :=
  kA0 (kAw (s0_q66 s_) 0) fun qq21 => match qq21 with
  | (.inl _) =>
      kA0 (some (kB5 (s_.size : Int) 1 10)) fun c8 =>
      some c8
  | (.inr q11) =>
      some q11
theorem tl0_q66 (env : Nat → Contract) {B : Base} (he_q68 : env kFk = .pure (T3 kB5)) (he_q69 : env kHa = .pure (T1 kEb)) (s_ : ByteArray)  {st : Int} {tm : TM} {h : kA7} (R : (fun (st : Int) tm h1 => match st with | w3 => tm = [sv s_, und, .top, iv w3, .top, .top, .top, .top, .top, .top, .top, .top, .top, .top, .top, und, und, und] ∧ Hold B h1 []) st tm h) : Sim (kB3 hm0_q66 xm0_q66 (lb0_q66 env) tm h) (kAw (s0_q66 s_) st) (fun (q : Sum Unit Bool) (r : Res) => match q with | .inl _ => ∃ (q7 : Int) (z6 : AV) (h4 : kA7), r = (.exit 0, [sv s_, und, z6, iv q7, .top, .top, .top, .top, .top, .top, .top, .top, .top, .top, .top, und, und, und], h4) ∧ Hold B h4 [] | .inr q11 => ∃ (q12 : Int) (h9 : kA7), r = (.ret, [sv s_, und, bv q11, iv q12, .top, .top, .top, .top, .top, .top, .top, .top, .top, .top, .top, und, und, und], h9) ∧ Hold B h9 []) := by
  refine kB1 (Rel := fun (st : Int) tm h1 => match st with | w3 => tm = [sv s_, und, .top, iv w3, .top, .top, .top, .top, .top, .top, .top, .top, .top, .top, .top, und, und, und] ∧ Hold B h1 []) (fun w3 tm h1 R => ?_) R
  obtain ⟨rfl, O2⟩ := R
  rw [e_lb0_q66]
  unfold s0_q66
  dsimp only
  refine kA1 (v := iv (s_.size : Int)) rfl ?_
  refine kA1 (v := bv (decide (w3 < (s_.size : Int)))) (kAh _ _) ?_
  refine kAa (fun c13 => ?_) (fun c13 => ?_)
  · refine sim_getB (fun b14 => ?_)
    refine kEg (t := kEb) he_q69 (snapD_byte _ _) (fun c15 => ?_)
    refine kA1 (v := bv (!c15)) (kBq _) ?_
    refine kAa (fun c16 => ?_) (fun c16 => ?_)
    · exact kA5 ⟨nofun, _, _, rfl, O2⟩
    · refine kA1 (v := iv (wr (w3 + 1))) (kAk _ _) ?_
      exact kA5 ⟨rfl, rfl, O2⟩
  · exact kA5 ⟨nofun, _, _, _, rfl, O2⟩
theorem ts_q66 (env : Nat → Contract) (he_q68 : env kFk = .pure (T3 kB5)) (he_q69 : env kHa = .pure (T1 kEb)) (s_ : ByteArray) : Sim (kAl Try.prog env n_q66 [sv s_] []) (t_q66 s_) fun c p => release p.2 depth p.1 = some ((fun c : Bool => enc c) c) := by
  have O := Hold.nil []
  generalize hB : (⟨[], []⟩ : Base) = B at O
  clear hB
  rw [e_q66]
  unfold t_q66
  refine kB0 ((tl0_q66 env he_q68 he_q69 s_) ⟨rfl, O⟩) (fun qq21 r hq => ?_)
  rcases qq21 with _ | q11
  · obtain ⟨q7, z6, h4, rfl, O5⟩ := hq
    rw [e_lk0x0_q66]
    refine kA1 (v := iv (s_.size : Int)) rfl ?_
    refine kF5 (t := kB5) he_q68 (kAr _ _) (kAr _ _) (kAr _ _) (fun c8 => ?_)
    exact kA5 (kA3 (by rfl) _)
  · obtain ⟨q12, h9, rfl, O10⟩ := hq
    rw [e_lk0r_q66]
    exact kA5 (kA3 (by rfl) _)
theorem tt_q66 : kAi Try.prog n_q66 (C1 (fun c : Bool => enc c) t_q66) := kD1 (kB7 ok_q68 (kB7 ok_q69 E0)) kBb hb_q66 fun s_ => ts_q66 _ (by simp [kBw]) (by simp [kBw]) s_
def t_q81 (s_ : ByteArray) : Option Bool :=
  kA0 (bif decide (s_ = (⟨#[]⟩ : ByteArray)) then some false else (kA0 (t_q66 s_) fun c2 => some c2)) fun c3 =>
  some (bif decide (s_ = (⟨#[]⟩ : ByteArray)) then true else c3)
theorem ts_q81 (env : Nat → Contract) (he_q66 : env n_q66 = .pure (C1 (fun c : Bool => enc c) t_q66)) (s_ : ByteArray) : Sim (kAl Try.prog env n_q81 [sv s_] []) (t_q81 s_) fun c p => release p.2 depth p.1 = some ((fun c : Bool => enc c) c) := by
  have O := Hold.nil []
  generalize hB : (⟨[], []⟩ : Base) = B at O
  clear hB
  rw [e_q81]
  unfold t_q81
  refine kA1 (v := bv (decide (s_ = (⟨#[]⟩ : ByteArray)))) (kEq _ _) ?_
  refine kBt (e := bv) (fun hb1 => ?_) (fun c3 => ?_)
  · refine kBp he_q66 (kBi _ _) (fun c2 => ?_)
    refine kAm (kAb (by rfl) _ _) ?_
    exact kA5 rfl
  · refine kA1 (v := bv (bif decide (s_ = (⟨#[]⟩ : ByteArray)) then true else c3)) (kCh _ _ _) ?_
    exact kA5 (kA3 (by rfl) _)
theorem tt_q81 : kAi Try.prog n_q81 (C1 (fun c : Bool => enc c) t_q81) := kD1 (kB7 tt_q66 E0) kBb hb_q81 fun s_ => ts_q81 _ (by simp [kBw]) s_
def t_q79 (b_ : Bigram) : Option Bool :=
  kA0 (t_q81 b_.first) fun c1 =>
  kA0 (bif c1 then (kA0 (t_q66 b_.second) fun c3 => some c3) else some false) fun c4 =>
  kA0 (bif (bif c1 then c4 else false) then (kA0 (some (kB5 b_.cost 0 1000000)) fun c6 => some c6) else some false) fun c7 =>
  some (bif (bif c1 then c4 else false) then c7 else false)
def tp_q79 (b_p : Pt Bigram) : Option Bool := kA0 b_p.get fun b_ => t_q79 b_
theorem ts_q79 (env : Nat → Contract) (he_q66 : env n_q66 = .pure (C1 (fun c : Bool => enc c) t_q66)) (he_q68 : env kFk = .pure (T3 kB5)) (he_q81 : env n_q81 = .pure (C1 (fun c : Bool => enc c) t_q81)) (b_ : Bigram) {b_p : Pt Bigram} (hp_b_ : b_p.get = some b_) : Sim (kAl Try.prog env n_q79 [AV.fptr (Row.w Bigram) (b_p.tab.map Row.cells) b_p.i 0] []) (t_q79 b_) fun c p => release p.2 depth p.1 = some ((fun c : Bool => enc c) c) := by
  have O := Hold.nil []
  generalize hB : (⟨[], []⟩ : Base) = B at O
  clear hB
  rw [e_q79]
  unfold t_q79
  refine kA1 (v := AV.fptr (Row.w Bigram) (b_p.tab.map Row.cells) b_p.i 0) rfl ?_
  refine kA1 (v := AV.fptr (Row.w Bigram) (b_p.tab.map Row.cells) b_p.i 0) rfl ?_
  refine kA1 (v := sv b_.first) (kBx hp_b_ false 1 0) ?_
  refine kBp he_q81 (kBi _ _) (fun c1 => ?_)
  refine kAm (kAb (by rfl) _ _) ?_
  refine kBs (e := bv) (fun hb2 => ?_) (fun c4 => ?_)
  · refine kA1 (v := AV.fptr (Row.w Bigram) (b_p.tab.map Row.cells) b_p.i 0) rfl ?_
    refine kA1 (v := AV.fptr (Row.w Bigram) (b_p.tab.map Row.cells) b_p.i 1) rfl ?_
    refine kA1 (v := sv b_.second) (kBx hp_b_ false 1 1) ?_
    refine kBp he_q66 (kBi _ _) (fun c3 => ?_)
    refine kAm (kAb (by rfl) _ _) ?_
    exact kA5 rfl
  · refine kA1 (v := bv (bif c1 then c4 else false)) (kCn _ _ _) ?_
    refine kBs (e := bv) (fun hb5 => ?_) (fun c7 => ?_)
    · refine kA1 (v := AV.fptr (Row.w Bigram) (b_p.tab.map Row.cells) b_p.i 0) rfl ?_
      refine kA1 (v := AV.fptr (Row.w Bigram) (b_p.tab.map Row.cells) b_p.i 2) rfl ?_
      refine kA1 (v := iv b_.cost) (kBx hp_b_ false 1 2) ?_
      refine kF5 (t := kB5) he_q68 (kAr _ _) (kAr _ _) (kAr _ _) (fun c6 => ?_)
      exact kA5 rfl
    · refine kA1 (v := bv (bif (bif c1 then c4 else false) then c7 else false)) (kCn _ _ _) ?_
      exact kA5 (kA3 (by rfl) _)
theorem tt_q79 : kAi Try.prog n_q79 (C1 (fun c : Bool => enc c) tp_q79) := kD1 (kB7 tt_q66 (kB7 ok_q68 (kB7 tt_q81 E0))) kBb hb_q79 fun b_p => kCm fun b_ hp_b_ => ts_q79 _ (by simp [kBw]) (by simp [kBw]) (by simp [kBw]) b_ hp_b_
def t_q78 (a_ : Bigram) (b_ : Bigram) : Option Bool :=
  kA0 (bif ltS a_.first b_.first then some false else (some (decide (a_.first = b_.first)))) fun c2 =>
  kA0 (bif (!(ltS a_.first b_.first) && c2) then (some (ltS a_.second b_.second)) else some false) fun c13 =>
  kA0 (bif ltS a_.first b_.first then some false else (some (bif c2 then c13 else false))) fun c23 =>
  some (bif ltS a_.first b_.first then true else c23)
def tp_q78 (a_p : Pt Bigram) (b_p : Pt Bigram) : Option Bool := kA0 a_p.get fun a_ => kA0 b_p.get fun b_ => t_q78 a_ b_
theorem ts_q78 (env : Nat → Contract)  (a_ : Bigram) (b_ : Bigram) {a_p : Pt Bigram} (hp_a_ : a_p.get = some a_) {b_p : Pt Bigram} (hp_b_ : b_p.get = some b_) : Sim (kAl Try.prog env n_q78 [AV.fptr (Row.w Bigram) (a_p.tab.map Row.cells) a_p.i 0, AV.fptr (Row.w Bigram) (b_p.tab.map Row.cells) b_p.i 0] []) (t_q78 a_ b_) fun c p => release p.2 depth p.1 = some ((fun c : Bool => enc c) c) := by
  have O := Hold.nil []
  generalize hB : (⟨[], []⟩ : Base) = B at O
  clear hB
  rw [e_q78]
  unfold t_q78
  refine kA1 (v := AV.fptr (Row.w Bigram) (a_p.tab.map Row.cells) a_p.i 0) rfl ?_
  refine kA1 (v := AV.fptr (Row.w Bigram) (a_p.tab.map Row.cells) a_p.i 0) rfl ?_
  refine kA1 (v := sv a_.first) (kBx hp_a_ false 1 0) ?_
  refine kA1 (v := AV.fptr (Row.w Bigram) (b_p.tab.map Row.cells) b_p.i 0) rfl ?_
  refine kA1 (v := AV.fptr (Row.w Bigram) (b_p.tab.map Row.cells) b_p.i 0) rfl ?_
  refine kA1 (v := sv b_.first) (kBx hp_b_ false 1 0) ?_
  refine kA1 (v := bv (ltS a_.first b_.first)) (str_lss _ _) ?_
  refine sim_g10F (e := bv) (fun hb1 => ?_) (fun y3 y4 y5 y6 y7 y8 y9 y10 y11 c2 => ?_)
  · refine kAe ?_
    refine kAp ?_
    refine kA1 (v := AV.fptr (Row.w Bigram) (a_p.tab.map Row.cells) a_p.i 0) rfl ?_
    refine kAe ?_
    refine kAp ?_
    refine kA1 (v := AV.fptr (Row.w Bigram) (a_p.tab.map Row.cells) a_p.i 0) rfl ?_
    refine kAe ?_
    refine kAp ?_
    refine kA1 (v := sv a_.first) (kBx hp_a_ false 1 0) ?_
    refine kAe ?_
    refine kAe ?_
    refine kAp ?_
    refine kA1 (v := AV.fptr (Row.w Bigram) (b_p.tab.map Row.cells) b_p.i 0) rfl ?_
    refine kAe ?_
    refine kAp ?_
    refine kA1 (v := AV.fptr (Row.w Bigram) (b_p.tab.map Row.cells) b_p.i 0) rfl ?_
    refine kAe ?_
    refine kAp ?_
    refine kA1 (v := sv b_.first) (kBx hp_b_ false 1 0) ?_
    refine kAe ?_
    refine kAp ?_
    refine kA1 (v := bv (decide (a_.first = b_.first))) (kEq _ _) ?_
    refine kAe ?_
    exact kA5 rfl
  · simp only [gv_FT]
    refine sim_g9T (e := bv) (fun hb12 => ?_) (fun y14 y15 y16 y17 y18 y19 y20 y21 c13 => ?_)
    · refine kAe ?_
      refine kAp ?_
      refine kA1 (v := AV.fptr (Row.w Bigram) (a_p.tab.map Row.cells) a_p.i 0) rfl ?_
      refine kAe ?_
      refine kAp ?_
      refine kA1 (v := AV.fptr (Row.w Bigram) (a_p.tab.map Row.cells) a_p.i 1) rfl ?_
      refine kAe ?_
      refine kAp ?_
      refine kA1 (v := sv a_.second) (kBx hp_a_ false 1 1) ?_
      refine kAe ?_
      refine kAe ?_
      refine kAp ?_
      refine kA1 (v := AV.fptr (Row.w Bigram) (b_p.tab.map Row.cells) b_p.i 0) rfl ?_
      refine kAe ?_
      refine kAp ?_
      refine kA1 (v := AV.fptr (Row.w Bigram) (b_p.tab.map Row.cells) b_p.i 1) rfl ?_
      refine kAe ?_
      refine kAp ?_
      refine kA1 (v := sv b_.second) (kBx hp_b_ false 1 1) ?_
      refine kAe ?_
      refine kA1 (v := bv (ltS a_.second b_.second)) (str_lss _ _) ?_
      exact kA5 rfl
    · refine kBt (e := bv) (fun hb22 => ?_) (fun c23 => ?_)
      · simp only [hb22, cond_true, cond_false, Bool.not_true, Bool.not_false, Bool.true_and, Bool.and_true, Bool.false_and, Bool.not_not]
        refine kA1 (v := bv (bif c2 then c13 else false)) (kCn _ _ _) ?_
        exact kA5 rfl
      · refine kA1 (v := bv (bif ltS a_.first b_.first then true else c23)) (kCh _ _ _) ?_
        exact kA5 (kA3 (by rfl) _)
theorem tt_q78 : kAi Try.prog n_q78 (C2 (fun c : Bool => enc c) tp_q78) := kC2 E0 kBb hb_q78 fun a_p b_p => kCm fun a_ hp_a_ => kCm fun b_ hp_b_ => ts_q78 _  a_ b_ hp_a_ hp_b_
def s0_q82 (m_ : Model) : Int → Option (Sum Int (Sum Unit Bool)) := fun w3 =>
  bif decide (w3 < (((m_.bigrams.getD []).length : Nat) : Int)) then
    kA0 (kC1 (m_.bigrams.getD []) w3) fun a16 =>
    kA0 (t_q79 a16) fun c20 =>
    kA0 (bif !c20 then some false else (some (decide (0 < w3)))) fun c22 =>
    kA0 (bif (!(!c20) && c22) then (kA0 (kC1 (m_.bigrams.getD []) (wr (w3 - 1))) fun a26 => kA0 (kC1 (m_.bigrams.getD []) w3) fun a30 => kA0 (t_q78 a26 a30) fun c34 => some (!c34)) else some false) fun c35 =>
    kA0 (bif !c20 then some false else (some (bif c22 then c35 else false))) fun c51 =>
    bif (bif !c20 then true else c51) then
      some (.inr (.inr false))
    else
      some (.inl (wr (w3 + 1)))
  else
    some (.inr (.inl ()))
def t_q82 (m_ : Model) : Option Bool :=
  kA0 (kAw (s0_q82 m_) 0) fun qq57 => match qq57 with
  | (.inl _) =>
      kA0 (some (kB5 m_.default 0 1000000)) fun c8 =>
      kA0 (bif c8 then (some (decide ((((m_.bigrams.getD []).length : Nat) : Int) ≤ 60))) else some false) fun c10 =>
      some (bif c8 then c10 else false)
  | (.inr q13) =>
      some q13
def tp_q82 (m_p : Pt Model) : Option Bool := kA0 m_p.get fun m_ => t_q82 m_
theorem tl0_q82 (env : Nat → Contract) {B : Base} (he_q68 : env kFk = .pure (T3 kB5)) (he_q78 : env n_q78 = .pure (C2 (fun c : Bool => enc c) tp_q78)) (he_q79 : env n_q79 = .pure (C1 (fun c : Bool => enc c) tp_q79)) (m_ : Model) (m_p : Pt Model) (hp_m_ : m_p.get = some m_)  {st : Int} {tm : TM} {h : kA7} (R : (fun (st : Int) tm h1 => match st with | w3 => tm = [AV.fptr (Row.w Model) (m_p.tab.map Row.cells) m_p.i 0, und, .top, iv w3, .top, .top, .top, .top, .top, .top, .top, .top, .top, .top, .top, .top, .top, .top, .top, .top, .top, .top, .top, .top, .top, .top, .top, .top, .top, .top, .top, .top, .top, .top, .top, .top, .top, .top, .top, .top, .top, .top, und, und, und, und, und, und, und, und, und, und, und, und, und] ∧ Hold B h1 []) st tm h) : Sim (kB3 hm0_q82 xm0_q82 (lb0_q82 env) tm h) (kAw (s0_q82 m_) st) (fun (q : Sum Unit Bool) (r : Res) => match q with | .inl _ => ∃ (q7 : Int) (z6 : AV) (h4 : kA7), r = (.exit 0, [AV.fptr (Row.w Model) (m_p.tab.map Row.cells) m_p.i 0, und, z6, iv q7, .top, .top, .top, .top, .top, .top, .top, .top, .top, .top, .top, .top, .top, .top, .top, .top, .top, .top, .top, .top, .top, .top, .top, .top, .top, .top, .top, .top, .top, .top, .top, .top, .top, .top, .top, .top, .top, .top, und, und, und, und, und, und, und, und, und, und, und, und, und], h4) ∧ Hold B h4 [] | .inr q13 => ∃ (q14 : Int) (h11 : kA7), r = (.ret, [AV.fptr (Row.w Model) (m_p.tab.map Row.cells) m_p.i 0, und, bv q13, iv q14, .top, .top, .top, .top, .top, .top, .top, .top, .top, .top, .top, .top, .top, .top, .top, .top, .top, .top, .top, .top, .top, .top, .top, .top, .top, .top, .top, .top, .top, .top, .top, .top, .top, .top, .top, .top, .top, .top, und, und, und, und, und, und, und, und, und, und, und, und, und], h11) ∧ Hold B h11 []) := by
  refine kB1 (Rel := fun (st : Int) tm h1 => match st with | w3 => tm = [AV.fptr (Row.w Model) (m_p.tab.map Row.cells) m_p.i 0, und, .top, iv w3, .top, .top, .top, .top, .top, .top, .top, .top, .top, .top, .top, .top, .top, .top, .top, .top, .top, .top, .top, .top, .top, .top, .top, .top, .top, .top, .top, .top, .top, .top, .top, .top, .top, .top, .top, .top, .top, .top, und, und, und, und, und, und, und, und, und, und, und, und, und] ∧ Hold B h1 []) (fun w3 tm h1 R => ?_) R
  obtain ⟨rfl, O2⟩ := R
  rw [e_lb0_q82]
  unfold s0_q82
  dsimp only
  refine kA1 (v := AV.fptr (Row.w Model) (m_p.tab.map Row.cells) m_p.i 0) rfl ?_
  refine kA1 (v := AV.fptr (Row.w Model) (m_p.tab.map Row.cells) m_p.i 1) rfl ?_
  refine kA1 (v := Sl.enc m_.bigrams) (kBx hp_m_ false 1 1) ?_
  refine kA1 (v := iv (((m_.bigrams.getD []).length : Nat) : Int)) (Tab.enc h1 m_.bigrams).len ?_
  refine kA1 (v := bv (decide (w3 < (((m_.bigrams.getD []).length : Nat) : Int)))) (kAh _ _) ?_
  refine kAa (fun c15 => ?_) (fun c15 => ?_)
  · refine kA1 (v := AV.fptr (Row.w Model) (m_p.tab.map Row.cells) m_p.i 0) rfl ?_
    refine kA1 (v := AV.fptr (Row.w Model) (m_p.tab.map Row.cells) m_p.i 1) rfl ?_
    refine kA1 (v := Sl.enc m_.bigrams) (kBx hp_m_ false 1 1) ?_
    refine kAo (Tab.enc h1 m_.bigrams) (fun m17 a16 hi18 hm19 => ?_)
    refine kDi (y' := tp_q79 ⟨m_.bigrams.getD [], m17⟩) (by simp only [tp_q79, kEf hm19, kA6]) ?_
    refine kCo he_q79 (kD8 _ m_.bigrams hm19) (fun c20 => ?_)
    refine kAm (kAb (by rfl) _ _) ?_
    refine kA1 (v := bv (!c20)) (kBq _) ?_
    refine sim_g3F (e := bv) (fun hb21 => ?_) (fun y23 y24 c22 => ?_)
    · refine kAe ?_
      refine kAp ?_
      refine kA1 (v := bv (decide (0 < w3))) (kE0 _ _) ?_
      refine kAe ?_
      exact kA5 rfl
    · simp only [gv_FT]
      refine sim_g15T (e := bv) (fun hb25 => ?_) (fun y36 y37 y38 y39 y40 y41 y42 y43 y44 y45 y46 y47 y48 y49 c35 => ?_)
      · refine kAe ?_
        refine kAp ?_
        refine kA1 (v := AV.fptr (Row.w Model) (m_p.tab.map Row.cells) m_p.i 0) rfl ?_
        refine kAe ?_
        refine kAp ?_
        refine kA1 (v := AV.fptr (Row.w Model) (m_p.tab.map Row.cells) m_p.i 1) rfl ?_
        refine kAe ?_
        refine kAp ?_
        refine kA1 (v := Sl.enc m_.bigrams) (kBx hp_m_ false 1 1) ?_
        refine kAe ?_
        refine kAe ?_
        refine kAp ?_
        refine kA1 (v := iv (wr (w3 - 1))) (kC4 _ _) ?_
        refine kAe ?_
        refine kAp ?_
        refine kAo (Tab.enc h1 m_.bigrams) (fun m27 a26 hi28 hm29 => ?_)
        refine kAe ?_
        refine kAe ?_
        refine kAp ?_
        refine kA1 (v := AV.fptr (Row.w Model) (m_p.tab.map Row.cells) m_p.i 0) rfl ?_
        refine kAe ?_
        refine kAp ?_
        refine kA1 (v := AV.fptr (Row.w Model) (m_p.tab.map Row.cells) m_p.i 1) rfl ?_
        refine kAe ?_
        refine kAp ?_
        refine kA1 (v := Sl.enc m_.bigrams) (kBx hp_m_ false 1 1) ?_
        refine kAe ?_
        refine kAe ?_
        refine kAp ?_
        refine kAo (Tab.enc h1 m_.bigrams) (fun m31 a30 hi32 hm33 => ?_)
        refine kAe ?_
        refine kI0 ?_
        refine kDi (y' := tp_q78 ⟨m_.bigrams.getD [], m27⟩ ⟨m_.bigrams.getD [], m31⟩) (by simp only [tp_q78, kEf hm29, kEf hm33, kA6]) ?_
        refine kC3 he_q78 (kD8 _ m_.bigrams hm29) (kD8 _ m_.bigrams hm33) (fun c34 => ?_)
        refine kAm (kAb (by rfl) _ _) ?_
        refine kAe ?_
        refine kA1 (v := bv (!c34)) (kBq _) ?_
        exact kA5 rfl
      · refine kBt (e := bv) (fun hb50 => ?_) (fun c51 => ?_)
        · simp only [hb50, cond_true, cond_false, Bool.not_true, Bool.not_false, Bool.true_and, Bool.and_true, Bool.false_and, Bool.not_not]
          refine kA1 (v := bv (bif c22 then c35 else false)) (kCn _ _ _) ?_
          exact kA5 rfl
        · refine kA1 (v := bv (bif !c20 then true else c51)) (kCh _ _ _) ?_
          refine kAa (fun c52 => ?_) (fun c52 => ?_)
          · exact kA5 ⟨nofun, _, _, rfl, O2⟩
          · refine kA1 (v := iv (wr (w3 + 1))) (kAk _ _) ?_
            exact kA5 ⟨rfl, rfl, O2⟩
  · exact kA5 ⟨nofun, _, _, _, rfl, O2⟩
theorem ts_q82 (env : Nat → Contract) (he_q68 : env kFk = .pure (T3 kB5)) (he_q78 : env n_q78 = .pure (C2 (fun c : Bool => enc c) tp_q78)) (he_q79 : env n_q79 = .pure (C1 (fun c : Bool => enc c) tp_q79)) (m_ : Model) {m_p : Pt Model} (hp_m_ : m_p.get = some m_) : Sim (kAl Try.prog env n_q82 [AV.fptr (Row.w Model) (m_p.tab.map Row.cells) m_p.i 0] []) (t_q82 m_) fun c p => release p.2 depth p.1 = some ((fun c : Bool => enc c) c) := by
  have O := Hold.nil []
  generalize hB : (⟨[], []⟩ : Base) = B at O
  clear hB
  rw [e_q82]
  unfold t_q82
  refine kB0 ((tl0_q82 env he_q68 he_q78 he_q79 m_ m_p hp_m_) ⟨rfl, O⟩) (fun qq57 r hq => ?_)
  rcases qq57 with _ | q13
  · obtain ⟨q7, z6, h4, rfl, O5⟩ := hq
    rw [e_lk0x0_q82]
    refine kA1 (v := AV.fptr (Row.w Model) (m_p.tab.map Row.cells) m_p.i 0) rfl ?_
    refine kA1 (v := AV.fptr (Row.w Model) (m_p.tab.map Row.cells) m_p.i 0) rfl ?_
    refine kA1 (v := iv m_.default) (kBx hp_m_ false 1 0) ?_
    refine kF5 (t := kB5) he_q68 (kAr _ _) (kAr _ _) (kAr _ _) (fun c8 => ?_)
    refine kBs (e := bv) (fun hb9 => ?_) (fun c10 => ?_)
    · refine kA1 (v := AV.fptr (Row.w Model) (m_p.tab.map Row.cells) m_p.i 0) rfl ?_
      refine kA1 (v := AV.fptr (Row.w Model) (m_p.tab.map Row.cells) m_p.i 1) rfl ?_
      refine kA1 (v := Sl.enc m_.bigrams) (kBx hp_m_ false 1 1) ?_
      refine kA1 (v := iv (((m_.bigrams.getD []).length : Nat) : Int)) (Tab.enc h4 m_.bigrams).len ?_
      refine kA1 (v := bv (decide ((((m_.bigrams.getD []).length : Nat) : Int) ≤ 60))) (kFf _ _) ?_
      exact kA5 rfl
    · refine kA1 (v := bv (bif c8 then c10 else false)) (kCn _ _ _) ?_
      exact kA5 (kA3 (by rfl) _)
  · obtain ⟨q14, h11, rfl, O12⟩ := hq
    rw [e_lk0r_q82]
    exact kA5 (kA3 (by rfl) _)
theorem tt_q82 : kAi Try.prog n_q82 (C1 (fun c : Bool => enc c) tp_q82) := kD1 (kB7 ok_q68 (kB7 tt_q78 (kB7 tt_q79 E0))) kBb hb_q82 fun m_p => kCm fun m_ hp_m_ => ts_q82 _ (by simp [kBw]) (by simp [kBw]) (by simp [kBw]) m_ hp_m_
def s0_q6 (l5 : List UInt8) : Int → Option (Sum Int (Sum Unit Bool)) := fun w8 =>
  bif decide (w8 < ((((some l5).getD []).length : Nat) : Int)) then
    kA0 (kC1 ((some l5).getD []) w8) fun a20 =>
    kA0 (some (kEb a20)) fun c24 =>
    bif !c24 then
      some (.inr (.inr false))
    else
      some (.inl (wr (w8 + 1)))
  else
    some (.inr (.inl ()))
def t_q6 (s_ : ByteArray) : Option Bool :=
  kA0 (bytesO s_) fun l5 =>
  kA0 (kAw (s0_q6 l5) 0) fun qq30 => match qq30 with
  | (.inl _) =>
      kA0 (bif decide (1 ≤ (s_.size : Int)) then (some (decide ((s_.size : Int) ≤ 10))) else some false) fun c14 =>
      some (bif decide (1 ≤ (s_.size : Int)) then c14 else false)
  | (.inr q17) =>
      some q17
theorem tl0_q6 (env : Nat → Contract) {B : Base} (he_q15 : env n_q15 = .pure (T1 kEb)) (s_ : ByteArray) (x1 : AV) (l5 : List UInt8)  {st : Int} {tm : TM} {h : kA7} (R : (fun (st : Int) tm h6 => match st with | w8 => tm = [sv s_, und, .top, und, .top, sv s_, x1, iv ((((some l5).getD []).length : Nat) : Int), iv w8, .top, .top, .top, .top, .top, .top, .top, und, und, und, und, und, und, und, und] ∧ Hold B h6 [(x1, obS ((some l5) : Sl UInt8))]) st tm h) : Sim (kB3 hm0_q6 xm0_q6 (lb0_q6 env) tm h) (kAw (s0_q6 l5) st) (fun (q : Sum Unit Bool) (r : Res) => match q with | .inl _ => ∃ (z11 : AV) (z12 : AV) (h9 : kA7), r = (.exit 0, [sv s_, und, z11, und, z12, sv s_, x1, iv ((((some l5).getD []).length : Nat) : Int), .top, .top, .top, .top, .top, .top, .top, .top, und, und, und, und, und, und, und, und], h9) ∧ Hold B h9 [(x1, obS ((some l5) : Sl UInt8))] | .inr q17 => ∃ (q18 : UInt8) (h15 : kA7), r = (.ret, [sv s_, und, bv q17, und, bt q18, sv s_, x1, iv ((((some l5).getD []).length : Nat) : Int), .top, .top, .top, .top, .top, .top, .top, .top, und, und, und, und, und, und, und, und], h15) ∧ Hold B h15 [(x1, obS ((some l5) : Sl UInt8))]) := by
  refine kB1 (Rel := fun (st : Int) tm h6 => match st with | w8 => tm = [sv s_, und, .top, und, .top, sv s_, x1, iv ((((some l5).getD []).length : Nat) : Int), iv w8, .top, .top, .top, .top, .top, .top, .top, und, und, und, und, und, und, und, und] ∧ Hold B h6 [(x1, obS ((some l5) : Sl UInt8))]) (fun w8 tm h6 R => ?_) R
  obtain ⟨rfl, O7⟩ := R
  rw [e_lb0_q6]
  unfold s0_q6
  dsimp only
  refine kA1 (v := bv (decide (w8 < ((((some l5).getD []).length : Nat) : Int)))) (kAh _ _) ?_
  refine kAa (fun c19 => ?_) (fun c19 => ?_)
  · refine kAo (O7.tab (A := UInt8) (s := (some l5)) 0 rfl) (fun m21 a20 hi22 hm23 => ?_)
    refine kA1 (v := bt a20) ((O7.tab (A := UInt8) (s := (some l5)) 0 rfl).ld hm23 false 1 0) ?_
    refine kEg (t := kEb) he_q15 (snapD_byte _ _) (fun c24 => ?_)
    refine kA1 (v := bv (!c24)) (kBq _) ?_
    refine kAa (fun c25 => ?_) (fun c25 => ?_)
    · exact kA5 ⟨nofun, _, _, rfl, O7⟩
    · refine kA1 (v := iv (wr (w8 + 1))) (kAk _ _) ?_
      exact kA5 ⟨rfl, rfl, O7⟩
  · exact kA5 ⟨nofun, _, _, _, rfl, O7⟩
theorem ts_q6 (env : Nat → Contract) (he_q15 : env n_q15 = .pure (T1 kEb)) (s_ : ByteArray) : Sim (kAl Try.prog env n_q6 [sv s_] []) (t_q6 s_) fun c p => release p.2 depth p.1 = some ((fun c : Bool => enc c) c) := by
  have O := Hold.nil []
  generalize hB : (⟨[], []⟩ : Base) = B at O
  clear hB
  rw [e_q6]
  unfold t_q6
  refine sim_bytes O (fun l5 x1 h2 O3 => ?_)
  replace O3 : Hold B h2 [(x1, obS ((some l5) : Sl UInt8))] := O3
  refine kA1 (v := iv ((((some l5).getD []).length : Nat) : Int)) (O3.tab (A := UInt8) (s := (some l5)) 0 rfl).len ?_
  refine kB0 ((tl0_q6 env he_q15 s_ x1 l5) ⟨rfl, O3⟩) (fun qq30 r hq => ?_)
  rcases qq30 with _ | q17
  · obtain ⟨z11, z12, h9, rfl, O10⟩ := hq
    rw [e_lk0x0_q6]
    refine kA1 (v := iv (s_.size : Int)) rfl ?_
    refine kA1 (v := bv (decide (1 ≤ (s_.size : Int)))) (kFn _ _) ?_
    refine kBs (e := bv) (fun hb13 => ?_) (fun c14 => ?_)
    · refine kA1 (v := iv (s_.size : Int)) rfl ?_
      refine kA1 (v := bv (decide ((s_.size : Int) ≤ 10))) (kFf _ _) ?_
      exact kA5 rfl
    · refine kA1 (v := bv (bif decide (1 ≤ (s_.size : Int)) then c14 else false)) (kCn _ _ _) ?_
      exact kA5 (kA3 (by rfl) _)
  · obtain ⟨q18, h15, rfl, O16⟩ := hq
    rw [e_lk0r_q6]
    exact kA5 (kA3 (by rfl) _)
theorem tt_q6 : kAi Try.prog n_q6 (C1 (fun c : Bool => enc c) t_q6) := kD1 (kB7 ok_q15 E0) kBb hb_q6 fun s_ => ts_q6 _ (by simp [kBw]) s_
def t_q22 (b_ : Bigram) : Option Bool :=
  kA0 (t_q6 b_.second) fun c5 =>
  kA0 (bif c5 then (some (decide (b_.first = (⟨#[]⟩ : ByteArray)))) else some false) fun c7 =>
  kA0 (bif (c5 && !c7) then (kA0 (t_q6 b_.first) fun c9 => some c9) else some false) fun c10 =>
  kA0 (bif c5 then (some (bif c7 then true else c10)) else some false) fun c12 =>
  kA0 (bif (bif c5 then c12 else false) then (kA0 (some ((fun y => kB5 y 0 1000000) b_.cost)) fun c14 => some c14) else some false) fun c15 =>
  some (bif (bif c5 then c12 else false) then c15 else false)
theorem ts_q22 (env : Nat → Contract) (he_q6 : env n_q6 = .pure (C1 (fun c : Bool => enc c) t_q6)) (he_q14 : env n_q14 = .pure (T1 (fun y => kB5 y 0 1000000))) (b_ : Bigram) : Sim (kAl Try.prog env n_q22 [AV.agg [sv b_.first, sv b_.second, iv b_.cost]] []) (t_q22 b_) fun c p => release p.2 depth p.1 = some ((fun c : Bool => enc c) c) := by
  have O := Hold.nil []
  generalize hB : (⟨[], []⟩ : Base) = B at O
  clear hB
  rw [e_q22]
  unfold t_q22
  refine kAv O (cs := [sv b_.first, sv b_.second, iv b_.cost]) (by first | rfl | simp) (fun o1 h2 O3 => ?_)
  replace O3 : Hold B h2 [(AV.ptr o1 1 0 0, .pt 3 [sv b_.first, sv b_.second, iv b_.cost])] := O3
  refine kA1 (v := AV.ptr o1 1 0 1) rfl ?_
  refine kA1 (v := sv b_.second) (O3.ld 0 rfl false 1 1) ?_
  refine kBp he_q6 (kBi _ _) (fun c5 => ?_)
  refine kAm (kAb (by rfl) _ _) ?_
  refine kBs (e := bv) (fun hb6 => ?_) (fun c7 => ?_)
  · refine kA1 (v := AV.ptr o1 1 0 0) rfl ?_
    refine kA1 (v := sv b_.first) (O3.ld 0 rfl false 1 0) ?_
    refine kA1 (v := bv (decide (b_.first = (⟨#[]⟩ : ByteArray)))) (kEq _ _) ?_
    exact kA5 rfl
  · simp only [gv_TF]
    refine kBs (e := bv) (fun hb8 => ?_) (fun c10 => ?_)
    · refine kA1 (v := AV.ptr o1 1 0 0) rfl ?_
      refine kA1 (v := sv b_.first) (O3.ld 0 rfl false 1 0) ?_
      refine kBp he_q6 (kBi _ _) (fun c9 => ?_)
      refine kAm (kAb (by rfl) _ _) ?_
      exact kA5 rfl
    · refine kBs (e := bv) (fun hb11 => ?_) (fun c12 => ?_)
      · simp only [hb11, cond_true, cond_false, Bool.not_true, Bool.not_false, Bool.true_and, Bool.and_true, Bool.false_and, Bool.not_not]
        refine kA1 (v := bv (bif c7 then true else c10)) (pick_nb _ _ _) ?_
        exact kA5 rfl
      · refine kA1 (v := bv (bif c5 then c12 else false)) (kCn _ _ _) ?_
        refine kBs (e := bv) (fun hb13 => ?_) (fun c15 => ?_)
        · refine kA1 (v := AV.ptr o1 1 0 2) rfl ?_
          refine kA1 (v := iv b_.cost) (O3.ld 0 rfl false 1 2) ?_
          refine kEg (t := (fun y => kB5 y 0 1000000)) he_q14 (kAr _ _) (fun c14 => ?_)
          exact kA5 rfl
        · refine kA1 (v := bv (bif (bif c5 then c12 else false) then c15 else false)) (kCn _ _ _) ?_
          exact kA5 (kA3 (by rfl) _)
theorem tt_q22 : kAi Try.prog n_q22 (C1 (fun c : Bool => enc c) t_q22) := kD1 (kB7 tt_q6 (kB7 ok_q14 E0)) kBb hb_q22 fun b_ => ts_q22 _ (by simp [kBw]) (by simp [kBw]) b_
def s0_q2 (vals_ : Sl Int) : Int → Option (Sum Int (Sum Unit Int)) := fun w3 =>
  bif decide (w3 < (((vals_.getD []).length : Nat) : Int)) then
    kA0 (kC1 (vals_.getD []) w3) fun a13 =>
    bif !decide (a13 = 0) then
      some (.inr (.inr a13))
    else
      some (.inl (wr (w3 + 1)))
  else
    some (.inr (.inl ()))
def t_q2 (vals_ : Sl Int) : Option Int :=
  kA0 (kAw (s0_q2 vals_) 0) fun qq22 => match qq22 with
  | (.inl _) =>
      some 0
  | (.inr q10) =>
      some q10
theorem tl0_q2 (env : Nat → Contract) {B : Base}  (vals_ : Sl Int)  {st : Int} {tm : TM} {h : kA7} (R : (fun (st : Int) tm h1 => match st with | w3 => tm = [Sl.enc vals_, und, .top, iv 0, und, .top, Sl.enc vals_, iv (((vals_.getD []).length : Nat) : Int), iv w3, .top, .top, .top, .top, .top, .top, .top, .top, und] ∧ Hold B h1 []) st tm h) : Sim (kB3 hm0_q2 xm0_q2 (lb0_q2 env) tm h) (kAw (s0_q2 vals_) st) (fun (q : Sum Unit Int) (r : Res) => match q with | .inl _ => ∃ (z6 : AV) (z7 : AV) (h4 : kA7), r = (.exit 0, [Sl.enc vals_, und, z6, iv 0, und, z7, Sl.enc vals_, iv (((vals_.getD []).length : Nat) : Int), .top, .top, .top, .top, .top, .top, .top, .top, .top, und], h4) ∧ Hold B h4 [] | .inr q10 => ∃ (q11 : Int) (h8 : kA7), r = (.ret, [Sl.enc vals_, und, iv q10, iv 0, und, iv q11, Sl.enc vals_, iv (((vals_.getD []).length : Nat) : Int), .top, .top, .top, .top, .top, .top, .top, .top, .top, und], h8) ∧ Hold B h8 []) := by
  refine kB1 (Rel := fun (st : Int) tm h1 => match st with | w3 => tm = [Sl.enc vals_, und, .top, iv 0, und, .top, Sl.enc vals_, iv (((vals_.getD []).length : Nat) : Int), iv w3, .top, .top, .top, .top, .top, .top, .top, .top, und] ∧ Hold B h1 []) (fun w3 tm h1 R => ?_) R
  obtain ⟨rfl, O2⟩ := R
  rw [e_lb0_q2]
  unfold s0_q2
  dsimp only
  refine kA1 (v := bv (decide (w3 < (((vals_.getD []).length : Nat) : Int)))) (kAh _ _) ?_
  refine kAa (fun c12 => ?_) (fun c12 => ?_)
  · refine kAo (Tab.enc h1 vals_) (fun m14 a13 hi15 hm16 => ?_)
    refine kA1 (v := iv a13) ((Tab.enc h1 vals_).ld hm16 false 1 0) ?_
    refine kA1 (v := bv (!decide (a13 = 0))) (kCi _ _) ?_
    refine kAa (fun c17 => ?_) (fun c17 => ?_)
    · exact kA5 ⟨nofun, _, _, rfl, O2⟩
    · refine kA1 (v := iv (wr (w3 + 1))) (kAk _ _) ?_
      exact kA5 ⟨rfl, rfl, O2⟩
  · exact kA5 ⟨nofun, _, _, _, rfl, O2⟩
theorem ts_q2 (env : Nat → Contract)  (vals_ : Sl Int) : Sim (kAl Try.prog env n_q2 [Sl.enc vals_] []) (t_q2 vals_) fun c p => release p.2 depth p.1 = some ((fun c : Int => enc c) c) := by
  have O := Hold.nil []
  generalize hB : (⟨[], []⟩ : Base) = B at O
  clear hB
  rw [e_q2]
  unfold t_q2
  refine kA1 (v := iv (((vals_.getD []).length : Nat) : Int)) (Tab.enc [] vals_).len ?_
  refine kB0 ((tl0_q2 env vals_) ⟨rfl, O⟩) (fun qq22 r hq => ?_)
  rcases qq22 with _ | q10
  · obtain ⟨z6, z7, h4, rfl, O5⟩ := hq
    rw [e_lk0x0_q2]
    exact kA5 (kA3 (by rfl) _)
  · obtain ⟨q11, h8, rfl, O9⟩ := hq
    rw [e_lk0r_q2]
    exact kA5 (kA3 (by rfl) _)
theorem tt_q2 : kAi Try.prog n_q2 (C1 (fun c : Int => enc c) t_q2) := kD1 E0 kBb hb_q2 fun vals_ => ts_q2 _  vals_
def s0_q10 (m_ : Model) : Int → Option (Sum Int (Sum Unit Bool)) := fun w7 =>
  bif decide (w7 < (((m_.bigrams.getD []).length : Nat) : Int)) then
    kA0 (kC1 (m_.bigrams.getD []) w7) fun a22 =>
    kA0 (t_q22 a22) fun c32 =>
    kA0 (bif !c32 then some false else (some (decide (0 < w7)))) fun c34 =>
    kA0 (bif (!(!c32) && c34) then (kA0 (kC1 (m_.bigrams.getD []) (wr (w7 - 1))) fun a38 => kA0 (some (cmpB a38 a22)) fun c42 => some (decide (0 ≤ c42))) else some false) fun c43 =>
    kA0 (bif !c32 then some false else (some (bif c34 then c43 else false))) fun c53 =>
    bif (bif !c32 then true else c53) then
      some (.inr (.inr false))
    else
      some (.inl (wr (w7 + 1)))
  else
    some (.inr (.inl ()))
def t_q10 (m_ : Model) : Option Bool :=
  kA0 (kAw (s0_q10 m_) 0) fun qq59 => match qq59 with
  | (.inl _) =>
      kA0 (some ((fun y => kB5 y 0 1000000) m_.default)) fun c13 =>
      kA0 (bif c13 then (some (decide ((((m_.bigrams.getD []).length : Nat) : Int) ≤ 60))) else some false) fun c15 =>
      some (bif c13 then c15 else false)
  | (.inr q18) =>
      some q18
theorem tl0_q10 (env : Nat → Contract) {B : Base} (he_q11 : env kGn = .pure (T2 cmpB)) (he_q14 : env n_q14 = .pure (T1 (fun y => kB5 y 0 1000000))) (he_q22 : env n_q22 = .pure (C1 (fun c : Bool => enc c) t_q22)) (m_ : Model) (o1 : Nat)  {st : Int} {tm : TM} {h : kA7} (R : (fun (st : Int) tm h5 => match st with | w7 => tm = [AV.agg [iv m_.default, Sl.enc m_.bigrams], AV.ptr o1 1 0 0, .top, .top, .top, AV.ptr o1 1 0 1, Sl.enc m_.bigrams, iv (((m_.bigrams.getD []).length : Nat) : Int), iv w7, .top, .top, .top, .top, .top, .top, .top, .top, .top, .top, .top, .top, .top, .top, .top, .top, .top, .top, .top, .top, .top, .top, .top, und, und, und, und, und, und, und, und, und] ∧ Hold B h5 [(AV.ptr o1 1 0 0, .pt 2 [iv m_.default, Sl.enc m_.bigrams])]) st tm h) : Sim (kB3 hm0_q10 xm0_q10 (lb0_q10 env) tm h) (kAw (s0_q10 m_) st) (fun (q : Sum Unit Bool) (r : Res) => match q with | .inl _ => ∃ (z10 : AV) (z11 : AV) (z12 : AV) (h8 : kA7), r = (.exit 0, [AV.agg [iv m_.default, Sl.enc m_.bigrams], AV.ptr o1 1 0 0, z10, z11, z12, AV.ptr o1 1 0 1, Sl.enc m_.bigrams, iv (((m_.bigrams.getD []).length : Nat) : Int), .top, .top, .top, .top, .top, .top, .top, .top, .top, .top, .top, .top, .top, .top, .top, .top, .top, .top, .top, .top, .top, .top, .top, .top, und, und, und, und, und, und, und, und, und], h8) ∧ Hold B h8 [(AV.ptr o1 1 0 0, .pt 2 [iv m_.default, Sl.enc m_.bigrams])] | .inr q18 => ∃ (q19 : Int) (z20 : AV) (h16 : kA7), r = (.ret, [AV.agg [iv m_.default, Sl.enc m_.bigrams], AV.ptr o1 1 0 0, bv q18, iv q19, z20, AV.ptr o1 1 0 1, Sl.enc m_.bigrams, iv (((m_.bigrams.getD []).length : Nat) : Int), .top, .top, .top, .top, .top, .top, .top, .top, .top, .top, .top, .top, .top, .top, .top, .top, .top, .top, .top, .top, .top, .top, .top, .top, und, und, und, und, und, und, und, und, und], h16) ∧ Hold B h16 [(AV.ptr o1 1 0 0, .pt 2 [iv m_.default, Sl.enc m_.bigrams])]) := by
  refine kB1 (Rel := fun (st : Int) tm h5 => match st with | w7 => tm = [AV.agg [iv m_.default, Sl.enc m_.bigrams], AV.ptr o1 1 0 0, .top, .top, .top, AV.ptr o1 1 0 1, Sl.enc m_.bigrams, iv (((m_.bigrams.getD []).length : Nat) : Int), iv w7, .top, .top, .top, .top, .top, .top, .top, .top, .top, .top, .top, .top, .top, .top, .top, .top, .top, .top, .top, .top, .top, .top, .top, und, und, und, und, und, und, und, und, und] ∧ Hold B h5 [(AV.ptr o1 1 0 0, .pt 2 [iv m_.default, Sl.enc m_.bigrams])]) (fun w7 tm h5 R => ?_) R
  obtain ⟨rfl, O6⟩ := R
  rw [e_lb0_q10]
  unfold s0_q10
  dsimp only
  refine kA1 (v := bv (decide (w7 < (((m_.bigrams.getD []).length : Nat) : Int)))) (kAh _ _) ?_
  refine kAa (fun c21 => ?_) (fun c21 => ?_)
  · refine kAo (Tab.enc h5 m_.bigrams) (fun m23 a22 hi24 hm25 => ?_)
    refine kA1 (v := AV.agg [sv a22.first, sv a22.second, iv a22.cost]) ((Tab.enc h5 m_.bigrams).ld hm25 true 3 0) ?_
    refine kAv O6 (cs := [sv (⟨#[]⟩ : ByteArray), sv (⟨#[]⟩ : ByteArray), iv 0]) (by first | rfl | simp) (fun o26 h27 O28 => ?_)
    replace O28 : Hold B h27 [(AV.ptr o1 1 0 0, .pt 2 [iv m_.default, Sl.enc m_.bigrams]), (AV.ptr o26 1 0 0, .pt 3 [sv (⟨#[]⟩ : ByteArray), sv (⟨#[]⟩ : ByteArray), iv 0])] := O28
    refine kBr O28 1 (cs' := [sv a22.first, sv a22.second, iv a22.cost]) rfl (by first | rfl | simp) (by simp) (by first | rfl | simp) (by first | rfl | simp [kBk]) (fun h30 O31 => ?_)
    replace O31 : Hold B h30 [(AV.ptr o1 1 0 0, .pt 2 [iv m_.default, Sl.enc m_.bigrams]), (AV.ptr o26 1 0 0, .pt 3 [sv a22.first, sv a22.second, iv a22.cost])] := O31
    refine kA1 (v := AV.agg [sv a22.first, sv a22.second, iv a22.cost]) (O31.ld 1 rfl true 3 0) ?_
    refine kCo he_q22 (kAu _ a22 rfl) (fun c32 => ?_)
    refine kAm (kAb (by rfl) _ _) ?_
    refine kA1 (v := bv (!c32)) (kBq _) ?_
    refine sim_g3F (e := bv) (fun hb33 => ?_) (fun y35 y36 c34 => ?_)
    · refine kAe ?_
      refine kAp ?_
      refine kA1 (v := bv (decide (0 < w7))) (kE0 _ _) ?_
      refine kAe ?_
      exact kA5 rfl
    · simp only [gv_FT]
      refine sim_g9T (e := bv) (fun hb37 => ?_) (fun y44 y45 y46 y47 y48 y49 y50 y51 c43 => ?_)
      · refine kAp ?_
        refine kA1 (v := AV.ptr o1 1 0 1) rfl ?_
        refine kAe ?_
        refine kAp ?_
        refine kA1 (v := Sl.enc m_.bigrams) (O31.ld 0 rfl false 1 1) ?_
        refine kAe ?_
        refine kAe ?_
        refine kAp ?_
        refine kA1 (v := iv (wr (w7 - 1))) (kC4 _ _) ?_
        refine kAe ?_
        refine kAp ?_
        refine kAo (Tab.enc h30 m_.bigrams) (fun m39 a38 hi40 hm41 => ?_)
        refine kAe ?_
        refine kAp ?_
        refine kA1 (v := AV.agg [sv a38.first, sv a38.second, iv a38.cost]) ((Tab.enc h30 m_.bigrams).ld hm41 true 3 0) ?_
        refine kAe ?_
        refine kAp ?_
        refine kA1 (v := AV.agg [sv a22.first, sv a22.second, iv a22.cost]) (O31.ld 1 rfl true 3 0) ?_
        refine kAe ?_
        refine kI0 ?_
        refine kDg (t := cmpB) he_q11 (kAu _ a38 rfl) (kAu _ a22 rfl) (fun c42 => ?_)
        refine kAe ?_
        refine kA1 (v := bv (decide (0 ≤ c42))) (kFn _ _) ?_
        exact kA5 rfl
      · refine kBt (e := bv) (fun hb52 => ?_) (fun c53 => ?_)
        · simp only [hb52, cond_true, cond_false, Bool.not_true, Bool.not_false, Bool.true_and, Bool.and_true, Bool.false_and, Bool.not_not]
          refine kA1 (v := bv (bif c34 then c43 else false)) (kCn _ _ _) ?_
          exact kA5 rfl
        · refine kA1 (v := bv (bif !c32 then true else c53)) (kCh _ _ _) ?_
          refine kAa (fun c54 => ?_) (fun c54 => ?_)
          · have O55 : Hold B h30 [(AV.ptr o1 1 0 0, .pt 2 [iv m_.default, Sl.enc m_.bigrams])] := O31.sel [0] (by decide) rfl
            exact kA5 ⟨nofun, _, _, _, rfl, O55⟩
          · refine kA1 (v := iv (wr (w7 + 1))) (kAk _ _) ?_
            have O56 : Hold B h30 [(AV.ptr o1 1 0 0, .pt 2 [iv m_.default, Sl.enc m_.bigrams])] := O31.sel [0] (by decide) rfl
            exact kA5 ⟨rfl, rfl, O56⟩
  · exact kA5 ⟨nofun, _, _, _, _, rfl, O6⟩
theorem ts_q10 (env : Nat → Contract) (he_q11 : env kGn = .pure (T2 cmpB)) (he_q14 : env n_q14 = .pure (T1 (fun y => kB5 y 0 1000000))) (he_q22 : env n_q22 = .pure (C1 (fun c : Bool => enc c) t_q22)) (m_ : Model) : Sim (kAl Try.prog env n_q10 [AV.agg [iv m_.default, Sl.enc m_.bigrams]] []) (t_q10 m_) fun c p => release p.2 depth p.1 = some ((fun c : Bool => enc c) c) := by
  have O := Hold.nil []
  generalize hB : (⟨[], []⟩ : Base) = B at O
  clear hB
  rw [e_q10]
  unfold t_q10
  refine kAv O (cs := [iv m_.default, Sl.enc m_.bigrams]) (by first | rfl | simp) (fun o1 h2 O3 => ?_)
  replace O3 : Hold B h2 [(AV.ptr o1 1 0 0, .pt 2 [iv m_.default, Sl.enc m_.bigrams])] := O3
  refine kA1 (v := AV.ptr o1 1 0 1) rfl ?_
  refine kA1 (v := Sl.enc m_.bigrams) (O3.ld 0 rfl false 1 1) ?_
  refine kA1 (v := iv (((m_.bigrams.getD []).length : Nat) : Int)) (Tab.enc h2 m_.bigrams).len ?_
  refine kB0 ((tl0_q10 env he_q11 he_q14 he_q22 m_ o1) ⟨rfl, O3⟩) (fun qq59 r hq => ?_)
  rcases qq59 with _ | q18
  · obtain ⟨z10, z11, z12, h8, rfl, O9⟩ := hq
    rw [e_lk0x0_q10]
    refine kA1 (v := AV.ptr o1 1 0 0) rfl ?_
    refine kA1 (v := iv m_.default) (O9.ld 0 rfl false 1 0) ?_
    refine kEg (t := (fun y => kB5 y 0 1000000)) he_q14 (kAr _ _) (fun c13 => ?_)
    refine kBs (e := bv) (fun hb14 => ?_) (fun c15 => ?_)
    · refine kA1 (v := AV.ptr o1 1 0 1) rfl ?_
      refine kA1 (v := Sl.enc m_.bigrams) (O9.ld 0 rfl false 1 1) ?_
      refine kA1 (v := iv (((m_.bigrams.getD []).length : Nat) : Int)) (Tab.enc h8 m_.bigrams).len ?_
      refine kA1 (v := bv (decide ((((m_.bigrams.getD []).length : Nat) : Int) ≤ 60))) (kFf _ _) ?_
      exact kA5 rfl
    · refine kA1 (v := bv (bif c13 then c15 else false)) (kCn _ _ _) ?_
      exact kA5 (kA3 (by rfl) _)
  · obtain ⟨q19, z20, h16, rfl, O17⟩ := hq
    rw [e_lk0r_q10]
    exact kA5 (kA3 (by rfl) _)
theorem tt_q10 : kAi Try.prog n_q10 (C1 (fun c : Bool => enc c) t_q10) := kD1 (kB7 ok_q11 (kB7 ok_q14 (kB7 tt_q22 E0))) kBb hb_q10 fun m_ => ts_q10 _ (by simp [kBw]) (by simp [kBw]) (by simp [kBw]) m_
def s0_q61 (x_ : Sl Bigram) (target_ : Bigram) : (Int × Int) → Option (Sum (Int × Int) Int) := fun (w7, w8) =>
  bif decide (w7 < w8) then
    kA0 (kC1 (x_.getD []) (wr (Int.fdiv (IntKind.u64.wrap (wr (w7 + w8))) (2 ^ 1)))) fun a29 =>
    kA0 (some (cmpB a29 target_)) fun c33 =>
    bif decide (c33 < 0) then
      some (.inl (wr ((wr (Int.fdiv (IntKind.u64.wrap (wr (w7 + w8))) (2 ^ 1))) + 1), w8))
    else
      some (.inl (w7, wr (Int.fdiv (IntKind.u64.wrap (wr (w7 + w8))) (2 ^ 1))))
  else
    some (.inr w7)
def t_q61 (x_ : Sl Bigram) (target_ : Bigram) (cmp_ : Clo0 kGn) : Option (Int × Bool) :=
  kA0 (kAw (s0_q61 x_ target_) (0, (((x_.getD []).length : Nat) : Int))) fun q11 =>
  kA0 (bif decide (q11 < (((x_.getD []).length : Nat) : Int)) then (kA0 (kC1 (x_.getD []) q11) fun a15 => kA0 (some (cmpB a15 target_)) fun c19 => some (decide (c19 = 0))) else some false) fun c20 =>
  some (q11, (bif decide (q11 < (((x_.getD []).length : Nat) : Int)) then c20 else false))
theorem tl0_q61 (env : Nat → Contract) {B : Base} (he_q11 : env kGn = .pure (T2 cmpB)) (x_ : Sl Bigram) (target_ : Bigram) (o1 : Nat)  {st : Int × Int} {tm : TM} {h : kA7} (R : (fun (st : Int × Int) tm h5 => match st with | (w7, w8) => tm = [Sl.enc x_, AV.agg [sv target_.first, sv target_.second, iv target_.cost], AV.fn kGn [], und, AV.ptr o1 1 0 0, und, iv 0, bv false, iv (((x_.getD []).length : Nat) : Int), iv w7, iv w8, .top, Sl.enc x_, iv (((x_.getD []).length : Nat) : Int), iv (((x_.getD []).length : Nat) : Int), .top, .top, .top, .top, .top, .top, .top, .top, .top, .top, .top, .top, .top, .top, .top, .top, .top, .top, .top, .top, und, und, und, und, und, und, und, und, und, und, und, und, und, und] ∧ Hold B h5 [(AV.ptr o1 1 0 0, .pt 3 [sv target_.first, sv target_.second, iv target_.cost])]) st tm h) : Sim (kB3 hm0_q61 xm0_q61 (lb0_q61 env) tm h) (kAw (s0_q61 x_ target_) st) (fun (q : Int) (r : Res) => match q with | q11 => ∃ (q12 : Int) (z13 : AV) (h9 : kA7), r = (.exit 0, [Sl.enc x_, AV.agg [sv target_.first, sv target_.second, iv target_.cost], AV.fn kGn [], und, AV.ptr o1 1 0 0, und, iv 0, bv false, iv (((x_.getD []).length : Nat) : Int), iv q11, iv q12, z13, Sl.enc x_, iv (((x_.getD []).length : Nat) : Int), iv (((x_.getD []).length : Nat) : Int), .top, .top, .top, .top, .top, .top, .top, .top, .top, .top, .top, .top, .top, .top, .top, .top, .top, .top, .top, .top, und, und, und, und, und, und, und, und, und, und, und, und, und, und], h9) ∧ Hold B h9 [(AV.ptr o1 1 0 0, .pt 3 [sv target_.first, sv target_.second, iv target_.cost])]) := by
  refine kB1 (Rel := fun (st : Int × Int) tm h5 => match st with | (w7, w8) => tm = [Sl.enc x_, AV.agg [sv target_.first, sv target_.second, iv target_.cost], AV.fn kGn [], und, AV.ptr o1 1 0 0, und, iv 0, bv false, iv (((x_.getD []).length : Nat) : Int), iv w7, iv w8, .top, Sl.enc x_, iv (((x_.getD []).length : Nat) : Int), iv (((x_.getD []).length : Nat) : Int), .top, .top, .top, .top, .top, .top, .top, .top, .top, .top, .top, .top, .top, .top, .top, .top, .top, .top, .top, .top, und, und, und, und, und, und, und, und, und, und, und, und, und, und] ∧ Hold B h5 [(AV.ptr o1 1 0 0, .pt 3 [sv target_.first, sv target_.second, iv target_.cost])]) (fun st tm h5 R => ?_) R
  obtain ⟨w7, w8⟩ := st
  obtain ⟨rfl, O6⟩ := R
  rw [e_lb0_q61]
  unfold s0_q61
  dsimp only
  refine kA1 (v := bv (decide (w7 < w8))) (kAh _ _) ?_
  refine kAa (fun c28 => ?_) (fun c28 => ?_)
  · refine kA1 (v := iv (wr (w7 + w8))) (kAk _ _) ?_
    refine kA1 (v := AV.sc (.int .u64 (IntKind.u64.wrap (wr (w7 + w8))))) rfl ?_
    refine kA1 (v := AV.sc (.int .u64 (Int.fdiv (IntKind.u64.wrap (wr (w7 + w8))) (2 ^ 1)))) rfl ?_
    refine kA1 (v := iv (wr (Int.fdiv (IntKind.u64.wrap (wr (w7 + w8))) (2 ^ 1)))) rfl ?_
    refine kAo (Tab.enc h5 x_) (fun m30 a29 hi31 hm32 => ?_)
    refine kA1 (v := AV.agg [sv a29.first, sv a29.second, iv a29.cost]) ((Tab.enc h5 x_).ld hm32 true 3 0) ?_
    refine kA1 (v := AV.agg [sv target_.first, sv target_.second, iv target_.cost]) (O6.ld 0 rfl true 3 0) ?_
    refine kDg (t := cmpB) he_q11 (kAu _ a29 rfl) (kAu _ target_ rfl) (fun c33 => ?_)
    refine kA1 (v := bv (decide (c33 < 0))) (kAh _ _) ?_
    refine kAa (fun c34 => ?_) (fun c34 => ?_)
    · refine kA1 (v := iv (wr ((wr (Int.fdiv (IntKind.u64.wrap (wr (w7 + w8))) (2 ^ 1))) + 1))) (kAk _ _) ?_
      exact kA5 ⟨rfl, rfl, O6⟩
    · exact kA5 ⟨rfl, rfl, O6⟩
  · exact kA5 ⟨nofun, _, _, _, rfl, O6⟩
theorem ts_q61 (env : Nat → Contract) (he_q11 : env kGn = .pure (T2 cmpB)) (x_ : Sl Bigram) (target_ : Bigram) (cmp_ : Clo0 kGn) : Sim (kAl Try.prog env n_q61 [Sl.enc x_, AV.agg [sv target_.first, sv target_.second, iv target_.cost], AV.fn kGn []] []) (t_q61 x_ target_ cmp_) fun c p => release p.2 depth p.1 = some ((fun c : Int × Bool => AV.tup [enc c.1, enc c.2]) c) := by
  have O := Hold.nil []
  generalize hB : (⟨[], []⟩ : Base) = B at O
  clear hB
  rw [e_q61]
  unfold t_q61
  refine kAv O (cs := [sv target_.first, sv target_.second, iv target_.cost]) (by first | rfl | simp) (fun o1 h2 O3 => ?_)
  replace O3 : Hold B h2 [(AV.ptr o1 1 0 0, .pt 3 [sv target_.first, sv target_.second, iv target_.cost])] := O3
  refine kA1 (v := iv (((x_.getD []).length : Nat) : Int)) (Tab.enc h2 x_).len ?_
  refine kB0 ((tl0_q61 env he_q11 x_ target_ o1) ⟨rfl, O3⟩) (fun qq39 r hq => ?_)
  revert hq
  revert qq39
  intro q11 hq
  obtain ⟨q12, z13, h9, rfl, O10⟩ := hq
  rw [e_lk0x0_q61]
  refine kA1 (v := bv (decide (q11 < (((x_.getD []).length : Nat) : Int)))) (kAh _ _) ?_
  refine sim_g8T (e := bv) (fun hb14 => ?_) (fun y21 y22 y23 y24 y25 y26 y27 c20 => ?_)
  · refine kAe ?_
    refine kAe ?_
    refine kAe ?_
    refine kAp ?_
    refine kAo (Tab.enc h9 x_) (fun m16 a15 hi17 hm18 => ?_)
    refine kAe ?_
    refine kAp ?_
    refine kA1 (v := AV.agg [sv a15.first, sv a15.second, iv a15.cost]) ((Tab.enc h9 x_).ld hm18 true 3 0) ?_
    refine kAe ?_
    refine kAp ?_
    refine kA1 (v := AV.agg [sv target_.first, sv target_.second, iv target_.cost]) (O10.ld 0 rfl true 3 0) ?_
    refine kAe ?_
    refine kI0 ?_
    refine kDg (t := cmpB) he_q11 (kAu _ a15 rfl) (kAu _ target_ rfl) (fun c19 => ?_)
    refine kAe ?_
    refine kA1 (v := bv (decide (c19 = 0))) (aCmp_eq _ _) ?_
    exact kA5 rfl
  · refine kA1 (v := bv (bif decide (q11 < (((x_.getD []).length : Nat) : Int)) then c20 else false)) (kCn _ _ _) ?_
    exact kA5 (kA3 (by rfl) _)
theorem tt_q61 : kAi Try.prog n_q61 (C3 (fun c : Int × Bool => AV.tup [enc c.1, enc c.2]) t_q61) := pureC3 (kB7 ok_q11 E0) kBb hb_q61 fun x_ target_ cmp_ => ts_q61 _ (by simp [kBw]) x_ target_ cmp_
def s0_q29 (a_ : Sl Bigram) (b_ : Sl Bigram) : Int → Option (Sum Int (Sum Unit Bool)) := fun w4 =>
  bif decide (w4 < (((a_.getD []).length : Nat) : Int)) then
    kA0 (kC1 (a_.getD []) w4) fun a14 =>
    kA0 (kC1 (b_.getD []) w4) fun a18 =>
    kA0 (some ((fun a b : Bigram => decide (a = b)) a14 a18)) fun c22 =>
    bif !c22 then
      some (.inr (.inr false))
    else
      some (.inl (wr (w4 + 1)))
  else
    some (.inr (.inl ()))
def t_q29 (a_ : Sl Bigram) (b_ : Sl Bigram) : Option Bool :=
  bif !decide ((((a_.getD []).length : Nat) : Int) = (((b_.getD []).length : Nat) : Int)) then
    some false
  else
    kA0 (kAw (s0_q29 a_ b_) 0) fun qq28 => match qq28 with
    | (.inl _) =>
        some true
    | (.inr q11) =>
        some q11
theorem tl0_q29 (env : Nat → Contract) {B : Base} (he_q28 : env n_q28 = .pure (T2 (fun a b : Bigram => decide (a = b)))) (a_ : Sl Bigram) (b_ : Sl Bigram)  {st : Int} {tm : TM} {h : kA7} (R : (fun (st : Int) tm h2 => match st with | w4 => tm = [Sl.enc a_, Sl.enc b_, und, und, .top, iv w4, Sl.enc a_, iv (((a_.getD []).length : Nat) : Int), Sl.enc b_, iv (((b_.getD []).length : Nat) : Int), bv (!decide ((((a_.getD []).length : Nat) : Int) = (((b_.getD []).length : Nat) : Int))), .top, .top, .top, .top, .top, .top, .top, .top, .top, .top, .top, .top, .top, .top, .top, .top] ∧ Hold B h2 []) st tm h) : Sim (kB3 hm0_q29 xm0_q29 (lb0_q29 env) tm h) (kAw (s0_q29 a_ b_) st) (fun (q : Sum Unit Bool) (r : Res) => match q with | .inl _ => ∃ (q8 : Int) (z7 : AV) (h5 : kA7), r = (.exit 0, [Sl.enc a_, Sl.enc b_, und, und, z7, iv q8, Sl.enc a_, iv (((a_.getD []).length : Nat) : Int), Sl.enc b_, iv (((b_.getD []).length : Nat) : Int), bv (!decide ((((a_.getD []).length : Nat) : Int) = (((b_.getD []).length : Nat) : Int))), .top, .top, .top, .top, .top, .top, .top, .top, .top, .top, .top, .top, .top, .top, .top, .top], h5) ∧ Hold B h5 [] | .inr q11 => ∃ (q12 : Int) (h9 : kA7), r = (.ret, [Sl.enc a_, Sl.enc b_, und, und, bv q11, iv q12, Sl.enc a_, iv (((a_.getD []).length : Nat) : Int), Sl.enc b_, iv (((b_.getD []).length : Nat) : Int), bv (!decide ((((a_.getD []).length : Nat) : Int) = (((b_.getD []).length : Nat) : Int))), .top, .top, .top, .top, .top, .top, .top, .top, .top, .top, .top, .top, .top, .top, .top, .top], h9) ∧ Hold B h9 []) := by
  refine kB1 (Rel := fun (st : Int) tm h2 => match st with | w4 => tm = [Sl.enc a_, Sl.enc b_, und, und, .top, iv w4, Sl.enc a_, iv (((a_.getD []).length : Nat) : Int), Sl.enc b_, iv (((b_.getD []).length : Nat) : Int), bv (!decide ((((a_.getD []).length : Nat) : Int) = (((b_.getD []).length : Nat) : Int))), .top, .top, .top, .top, .top, .top, .top, .top, .top, .top, .top, .top, .top, .top, .top, .top] ∧ Hold B h2 []) (fun w4 tm h2 R => ?_) R
  obtain ⟨rfl, O3⟩ := R
  rw [e_lb0_q29]
  unfold s0_q29
  dsimp only
  refine kA1 (v := iv (((a_.getD []).length : Nat) : Int)) (Tab.enc h2 a_).len ?_
  refine kA1 (v := bv (decide (w4 < (((a_.getD []).length : Nat) : Int)))) (kAh _ _) ?_
  refine kAa (fun c13 => ?_) (fun c13 => ?_)
  · refine kAo (Tab.enc h2 a_) (fun m15 a14 hi16 hm17 => ?_)
    refine kA1 (v := AV.agg [sv a14.first, sv a14.second, iv a14.cost]) ((Tab.enc h2 a_).ld hm17 true 3 0) ?_
    refine kAo (Tab.enc h2 b_) (fun m19 a18 hi20 hm21 => ?_)
    refine kA1 (v := AV.agg [sv a18.first, sv a18.second, iv a18.cost]) ((Tab.enc h2 b_).ld hm21 true 3 0) ?_
    refine kDg (t := (fun a b : Bigram => decide (a = b))) he_q28 (kAu _ a14 rfl) (kAu _ a18 rfl) (fun c22 => ?_)
    refine kA1 (v := bv (!c22)) (kBq _) ?_
    refine kAa (fun c23 => ?_) (fun c23 => ?_)
    · exact kA5 ⟨nofun, _, _, rfl, O3⟩
    · refine kA1 (v := iv (wr (w4 + 1))) (kAk _ _) ?_
      exact kA5 ⟨rfl, rfl, O3⟩
  · exact kA5 ⟨nofun, _, _, _, rfl, O3⟩
theorem ts_q29 (env : Nat → Contract) (he_q28 : env n_q28 = .pure (T2 (fun a b : Bigram => decide (a = b)))) (a_ : Sl Bigram) (b_ : Sl Bigram) : Sim (kAl Try.prog env n_q29 [Sl.enc a_, Sl.enc b_] []) (t_q29 a_ b_) fun c p => release p.2 depth p.1 = some ((fun c : Bool => enc c) c) := by
  have O := Hold.nil []
  generalize hB : (⟨[], []⟩ : Base) = B at O
  clear hB
  rw [e_q29]
  unfold t_q29
  refine kA1 (v := iv (((a_.getD []).length : Nat) : Int)) (Tab.enc [] a_).len ?_
  refine kA1 (v := iv (((b_.getD []).length : Nat) : Int)) (Tab.enc [] b_).len ?_
  refine kA1 (v := bv (!decide ((((a_.getD []).length : Nat) : Int) = (((b_.getD []).length : Nat) : Int)))) (kCi _ _) ?_
  refine kAa (fun c1 => ?_) (fun c1 => ?_)
  · exact kA5 (kA3 (by rfl) _)
  · refine kB0 ((tl0_q29 env he_q28 a_ b_) ⟨rfl, O⟩) (fun qq28 r hq => ?_)
    rcases qq28 with _ | q11
    · obtain ⟨q8, z7, h5, rfl, O6⟩ := hq
      rw [e_lk0x0_q29]
      exact kA5 (kA3 (by rfl) _)
    · obtain ⟨q12, h9, rfl, O10⟩ := hq
      rw [e_lk0r_q29]
      exact kA5 (kA3 (by rfl) _)
theorem tt_q29 : kAi Try.prog n_q29 (C2 (fun c : Bool => enc c) t_q29) := kC2 (kB7 ok_q28 E0) kBb hb_q29 fun a_ b_ => ts_q29 _ (by simp [kBw]) a_ b_
def t_q37 (a_ : Model) (b_ : Model) : Option Bool :=
  bif !decide (a_.default = b_.default) then
    some false
  else
    kA0 (t_q29 a_.bigrams b_.bigrams) fun c10 =>
    bif !c10 then
      some false
    else
      some true
theorem ts_q37 (env : Nat → Contract) (he_q29 : env n_q29 = .pure (C2 (fun c : Bool => enc c) t_q29)) (a_ : Model) (b_ : Model) : Sim (kAl Try.prog env n_q37 [AV.agg [iv a_.default, Sl.enc a_.bigrams], AV.agg [iv b_.default, Sl.enc b_.bigrams]] []) (t_q37 a_ b_) fun c p => release p.2 depth p.1 = some ((fun c : Bool => enc c) c) := by
  have O := Hold.nil []
  generalize hB : (⟨[], []⟩ : Base) = B at O
  clear hB
  rw [e_q37]
  unfold t_q37
  refine kAv O (cs := [iv a_.default, Sl.enc a_.bigrams]) (by first | rfl | simp) (fun o1 h2 O3 => ?_)
  replace O3 : Hold B h2 [(AV.ptr o1 1 0 0, .pt 2 [iv a_.default, Sl.enc a_.bigrams])] := O3
  refine kAv O3 (cs := [iv b_.default, Sl.enc b_.bigrams]) (by first | rfl | simp) (fun o5 h6 O7 => ?_)
  replace O7 : Hold B h6 [(AV.ptr o1 1 0 0, .pt 2 [iv a_.default, Sl.enc a_.bigrams]), (AV.ptr o5 1 0 0, .pt 2 [iv b_.default, Sl.enc b_.bigrams])] := O7
  refine kA1 (v := AV.ptr o1 1 0 0) rfl ?_
  refine kA1 (v := iv a_.default) (O7.ld 0 rfl false 1 0) ?_
  refine kA1 (v := AV.ptr o5 1 0 0) rfl ?_
  refine kA1 (v := iv b_.default) (O7.ld 1 rfl false 1 0) ?_
  refine kA1 (v := bv (!decide (a_.default = b_.default))) (kCi _ _) ?_
  refine kAa (fun c9 => ?_) (fun c9 => ?_)
  · exact kA5 (kA3 (by rfl) _)
  · refine kA1 (v := AV.ptr o1 1 0 1) rfl ?_
    refine kA1 (v := Sl.enc a_.bigrams) (O7.ld 0 rfl false 1 1) ?_
    refine kA1 (v := AV.ptr o5 1 0 1) rfl ?_
    refine kA1 (v := Sl.enc b_.bigrams) (O7.ld 1 rfl false 1 1) ?_
    refine kBg he_q29 (kB9 _ _) (kB9 _ _) (fun c10 => ?_)
    refine kAm (kAb (by rfl) _ _) ?_
    refine kA1 (v := bv (!c10)) (kBq _) ?_
    refine kAa (fun c11 => ?_) (fun c11 => ?_)
    · exact kA5 (kA3 (by rfl) _)
    · exact kA5 (kA3 (by rfl) _)
theorem tt_q37 : kAi Try.prog n_q37 (C2 (fun c : Bool => enc c) t_q37) := kC2 (kB7 tt_q29 E0) kBb hb_q37 fun a_ b_ => ts_q37 _ (by simp [kBw]) a_ b_
def t_q41 (a_ : Edg) (left_ : Int) : Option Int :=
  bif decide ((wr (left_ - (a_.label.size : Int))) < 0) then
    some (-1)
  else
    some (wr (left_ - (a_.label.size : Int)))
theorem ts_q41 (env : Nat → Contract)  (a_ : Edg) (left_ : Int) : Sim (kAl Try.prog env n_q41 [AV.agg [iv a_.frm, iv a_.upto, sv a_.label, iv a_.cost], iv left_] []) (t_q41 a_ left_) fun c p => release p.2 depth p.1 = some ((fun c : Int => enc c) c) := by
  have O := Hold.nil []
  generalize hB : (⟨[], []⟩ : Base) = B at O
  clear hB
  rw [e_q41]
  unfold t_q41
  refine kAv O (cs := [iv a_.frm, iv a_.upto, sv a_.label, iv a_.cost]) (by first | rfl | simp) (fun o1 h2 O3 => ?_)
  replace O3 : Hold B h2 [(AV.ptr o1 1 0 0, .pt 4 [iv a_.frm, iv a_.upto, sv a_.label, iv a_.cost])] := O3
  refine kA1 (v := AV.ptr o1 1 0 2) rfl ?_
  refine kA1 (v := sv a_.label) (O3.ld 0 rfl false 1 2) ?_
  refine kA1 (v := iv (a_.label.size : Int)) rfl ?_
  refine kA1 (v := iv (wr (left_ - (a_.label.size : Int)))) (kC4 _ _) ?_
  refine kA1 (v := bv (decide ((wr (left_ - (a_.label.size : Int))) < 0))) (kAh _ _) ?_
  refine kAa (fun c5 => ?_) (fun c5 => ?_)
  · exact kA5 (kA3 (by rfl) _)
  · exact kA5 (kA3 (by rfl) _)
theorem tt_q41 : kAi Try.prog n_q41 (C2 (fun c : Int => enc c) t_q41) := kC2 E0 kBb hb_q41 fun a_ left_ => ts_q41 _  a_ left_
def s0_q42 (a_ : Sl Edg) : (Int × Int) → Option (Sum (Int × Int) (Sum Int Int)) := fun (w4, w5) =>
  bif decide (w5 < (((a_.getD []).length : Nat) : Int)) then
    kA0 (kC1 (a_.getD []) w5) fun a17 =>
    kA0 (t_q41 a17 w4) fun c21 =>
    bif decide (c21 < 0) then
      some (.inr (.inr (-1)))
    else
      some (.inl (c21, wr (w5 + 1)))
  else
    some (.inr (.inl w4))
def t_q42 (a_ : Sl Edg) (left_ : Int) : Option Int :=
  bif decide ((wr (left_ - (((a_.getD []).length : Nat) : Int))) < 0) then
    some (-1)
  else
    kA0 (kAw (s0_q42 a_) (wr (left_ - (((a_.getD []).length : Nat) : Int)), 0)) fun qq27 => match qq27 with
    | (.inl q8) =>
        some q8
    | (.inr q14) =>
        some q14
theorem tl0_q42 (env : Nat → Contract) {B : Base} (he_q41 : env n_q41 = .pure (C2 (fun c : Int => enc c) t_q41)) (a_ : Sl Edg) (left_ : Int)  {st : Int × Int} {tm : TM} {h : kA7} (R : (fun (st : Int × Int) tm h2 => match st with | (w4, w5) => tm = [Sl.enc a_, iv w4, und, und, .top, iv w5, iv left_, Sl.enc a_, iv (((a_.getD []).length : Nat) : Int), iv (wr (left_ - (((a_.getD []).length : Nat) : Int))), iv (wr (left_ - (((a_.getD []).length : Nat) : Int))), bv (decide ((wr (left_ - (((a_.getD []).length : Nat) : Int))) < 0)), .top, .top, .top, .top, .top, .top, .top, .top, .top, .top, .top, .top, .top, .top, und] ∧ Hold B h2 []) st tm h) : Sim (kB3 hm0_q42 xm0_q42 (lb0_q42 env) tm h) (kAw (s0_q42 a_) st) (fun (q : Sum Int Int) (r : Res) => match q with | .inl q8 => ∃ (q10 : Int) (z9 : AV) (h6 : kA7), r = (.exit 0, [Sl.enc a_, iv q8, und, und, z9, iv q10, iv left_, Sl.enc a_, iv (((a_.getD []).length : Nat) : Int), iv (wr (left_ - (((a_.getD []).length : Nat) : Int))), iv (wr (left_ - (((a_.getD []).length : Nat) : Int))), bv (decide ((wr (left_ - (((a_.getD []).length : Nat) : Int))) < 0)), .top, .top, .top, .top, .top, .top, .top, .top, .top, .top, .top, .top, .top, .top, und], h6) ∧ Hold B h6 [] | .inr q14 => ∃ (q13 : Int) (q15 : Int) (h11 : kA7), r = (.ret, [Sl.enc a_, iv q13, und, und, iv q14, iv q15, iv left_, Sl.enc a_, iv (((a_.getD []).length : Nat) : Int), iv (wr (left_ - (((a_.getD []).length : Nat) : Int))), iv (wr (left_ - (((a_.getD []).length : Nat) : Int))), bv (decide ((wr (left_ - (((a_.getD []).length : Nat) : Int))) < 0)), .top, .top, .top, .top, .top, .top, .top, .top, .top, .top, .top, .top, .top, .top, und], h11) ∧ Hold B h11 []) := by
  refine kB1 (Rel := fun (st : Int × Int) tm h2 => match st with | (w4, w5) => tm = [Sl.enc a_, iv w4, und, und, .top, iv w5, iv left_, Sl.enc a_, iv (((a_.getD []).length : Nat) : Int), iv (wr (left_ - (((a_.getD []).length : Nat) : Int))), iv (wr (left_ - (((a_.getD []).length : Nat) : Int))), bv (decide ((wr (left_ - (((a_.getD []).length : Nat) : Int))) < 0)), .top, .top, .top, .top, .top, .top, .top, .top, .top, .top, .top, .top, .top, .top, und] ∧ Hold B h2 []) (fun st tm h2 R => ?_) R
  obtain ⟨w4, w5⟩ := st
  obtain ⟨rfl, O3⟩ := R
  rw [e_lb0_q42]
  unfold s0_q42
  dsimp only
  refine kA1 (v := iv (((a_.getD []).length : Nat) : Int)) (Tab.enc h2 a_).len ?_
  refine kA1 (v := bv (decide (w5 < (((a_.getD []).length : Nat) : Int)))) (kAh _ _) ?_
  refine kAa (fun c16 => ?_) (fun c16 => ?_)
  · refine kAo (Tab.enc h2 a_) (fun m18 a17 hi19 hm20 => ?_)
    refine kA1 (v := AV.agg [iv a17.frm, iv a17.upto, sv a17.label, iv a17.cost]) ((Tab.enc h2 a_).ld hm20 true 4 0) ?_
    refine kBg he_q41 (kAu _ a17 rfl) (kAr _ _) (fun c21 => ?_)
    refine kAm (kAb (by rfl) _ _) ?_
    refine kA1 (v := bv (decide (c21 < 0))) (kAh _ _) ?_
    refine kAa (fun c22 => ?_) (fun c22 => ?_)
    · exact kA5 ⟨nofun, _, _, _, rfl, O3⟩
    · refine kA1 (v := iv (wr (w5 + 1))) (kAk _ _) ?_
      exact kA5 ⟨rfl, rfl, O3⟩
  · exact kA5 ⟨nofun, _, _, _, rfl, O3⟩
theorem ts_q42 (env : Nat → Contract) (he_q41 : env n_q41 = .pure (C2 (fun c : Int => enc c) t_q41)) (a_ : Sl Edg) (left_ : Int) : Sim (kAl Try.prog env n_q42 [Sl.enc a_, iv left_] []) (t_q42 a_ left_) fun c p => release p.2 depth p.1 = some ((fun c : Int => enc c) c) := by
  have O := Hold.nil []
  generalize hB : (⟨[], []⟩ : Base) = B at O
  clear hB
  rw [e_q42]
  unfold t_q42
  refine kA1 (v := iv (((a_.getD []).length : Nat) : Int)) (Tab.enc [] a_).len ?_
  refine kA1 (v := iv (wr (left_ - (((a_.getD []).length : Nat) : Int)))) (kC4 _ _) ?_
  refine kA1 (v := bv (decide ((wr (left_ - (((a_.getD []).length : Nat) : Int))) < 0))) (kAh _ _) ?_
  refine kAa (fun c1 => ?_) (fun c1 => ?_)
  · exact kA5 (kA3 (by rfl) _)
  · refine kB0 ((tl0_q42 env he_q41 a_ left_) ⟨rfl, O⟩) (fun qq27 r hq => ?_)
    rcases qq27 with q8 | q14
    · obtain ⟨q10, z9, h6, rfl, O7⟩ := hq
      rw [e_lk0x0_q42]
      exact kA5 (kA3 (by rfl) _)
    · obtain ⟨q13, q15, h11, rfl, O12⟩ := hq
      rw [e_lk0r_q42]
      exact kA5 (kA3 (by rfl) _)
theorem tt_q42 : kAi Try.prog n_q42 (C2 (fun c : Int => enc c) t_q42) := kC2 (kB7 tt_q41 E0) kBb hb_q42 fun a_ left_ => ts_q42 _ (by simp [kBw]) a_ left_
def t_q45 (a_ : Lattice) (left_ : Int) : Option Int :=
  kA0 (t_q42 a_.edges left_) fun c5 =>
  bif decide (c5 < 0) then
    some (-1)
  else
    some c5
theorem ts_q45 (env : Nat → Contract) (he_q42 : env n_q42 = .pure (C2 (fun c : Int => enc c) t_q42)) (a_ : Lattice) (left_ : Int) : Sim (kAl Try.prog env n_q45 [AV.agg [iv a_.nodes, Sl.enc a_.edges], iv left_] []) (t_q45 a_ left_) fun c p => release p.2 depth p.1 = some ((fun c : Int => enc c) c) := by
  have O := Hold.nil []
  generalize hB : (⟨[], []⟩ : Base) = B at O
  clear hB
  rw [e_q45]
  unfold t_q45
  refine kAv O (cs := [iv a_.nodes, Sl.enc a_.edges]) (by first | rfl | simp) (fun o1 h2 O3 => ?_)
  replace O3 : Hold B h2 [(AV.ptr o1 1 0 0, .pt 2 [iv a_.nodes, Sl.enc a_.edges])] := O3
  refine kA1 (v := AV.ptr o1 1 0 1) rfl ?_
  refine kA1 (v := Sl.enc a_.edges) (O3.ld 0 rfl false 1 1) ?_
  refine kBg he_q42 (kB9 _ _) (kAr _ _) (fun c5 => ?_)
  refine kAm (kAb (by rfl) _ _) ?_
  refine kA1 (v := bv (decide (c5 < 0))) (kAh _ _) ?_
  refine kAa (fun c6 => ?_) (fun c6 => ?_)
  · exact kA5 (kA3 (by rfl) _)
  · exact kA5 (kA3 (by rfl) _)
theorem tt_q45 : kAi Try.prog n_q45 (C2 (fun c : Int => enc c) t_q45) := kC2 (kB7 tt_q42 E0) kBb hb_q45 fun a_ left_ => ts_q45 _ (by simp [kBw]) a_ left_
def s0_q46 (a_ : Sl Lattice) : (Int × Int) → Option (Sum (Int × Int) (Sum Int Int)) := fun (w4, w5) =>
  bif decide (w5 < (((a_.getD []).length : Nat) : Int)) then
    kA0 (kC1 (a_.getD []) w5) fun a17 =>
    kA0 (t_q45 a17 w4) fun c21 =>
    bif decide (c21 < 0) then
      some (.inr (.inr (-1)))
    else
      some (.inl (c21, wr (w5 + 1)))
  else
    some (.inr (.inl w4))
def t_q46 (a_ : Sl Lattice) (left_ : Int) : Option Int :=
  bif decide ((wr (left_ - (((a_.getD []).length : Nat) : Int))) < 0) then
    some (-1)
  else
    kA0 (kAw (s0_q46 a_) (wr (left_ - (((a_.getD []).length : Nat) : Int)), 0)) fun qq27 => match qq27 with
    | (.inl q8) =>
        some q8
    | (.inr q14) =>
        some q14
theorem tl0_q46 (env : Nat → Contract) {B : Base} (he_q45 : env n_q45 = .pure (C2 (fun c : Int => enc c) t_q45)) (a_ : Sl Lattice) (left_ : Int)  {st : Int × Int} {tm : TM} {h : kA7} (R : (fun (st : Int × Int) tm h2 => match st with | (w4, w5) => tm = [Sl.enc a_, iv w4, und, und, .top, iv w5, iv left_, Sl.enc a_, iv (((a_.getD []).length : Nat) : Int), iv (wr (left_ - (((a_.getD []).length : Nat) : Int))), iv (wr (left_ - (((a_.getD []).length : Nat) : Int))), bv (decide ((wr (left_ - (((a_.getD []).length : Nat) : Int))) < 0)), .top, .top, .top, .top, .top, .top, .top, .top, .top, .top, .top, .top, .top, .top, und] ∧ Hold B h2 []) st tm h) : Sim (kB3 hm0_q46 xm0_q46 (lb0_q46 env) tm h) (kAw (s0_q46 a_) st) (fun (q : Sum Int Int) (r : Res) => match q with | .inl q8 => ∃ (q10 : Int) (z9 : AV) (h6 : kA7), r = (.exit 0, [Sl.enc a_, iv q8, und, und, z9, iv q10, iv left_, Sl.enc a_, iv (((a_.getD []).length : Nat) : Int), iv (wr (left_ - (((a_.getD []).length : Nat) : Int))), iv (wr (left_ - (((a_.getD []).length : Nat) : Int))), bv (decide ((wr (left_ - (((a_.getD []).length : Nat) : Int))) < 0)), .top, .top, .top, .top, .top, .top, .top, .top, .top, .top, .top, .top, .top, .top, und], h6) ∧ Hold B h6 [] | .inr q14 => ∃ (q13 : Int) (q15 : Int) (h11 : kA7), r = (.ret, [Sl.enc a_, iv q13, und, und, iv q14, iv q15, iv left_, Sl.enc a_, iv (((a_.getD []).length : Nat) : Int), iv (wr (left_ - (((a_.getD []).length : Nat) : Int))), iv (wr (left_ - (((a_.getD []).length : Nat) : Int))), bv (decide ((wr (left_ - (((a_.getD []).length : Nat) : Int))) < 0)), .top, .top, .top, .top, .top, .top, .top, .top, .top, .top, .top, .top, .top, .top, und], h11) ∧ Hold B h11 []) := by
  refine kB1 (Rel := fun (st : Int × Int) tm h2 => match st with | (w4, w5) => tm = [Sl.enc a_, iv w4, und, und, .top, iv w5, iv left_, Sl.enc a_, iv (((a_.getD []).length : Nat) : Int), iv (wr (left_ - (((a_.getD []).length : Nat) : Int))), iv (wr (left_ - (((a_.getD []).length : Nat) : Int))), bv (decide ((wr (left_ - (((a_.getD []).length : Nat) : Int))) < 0)), .top, .top, .top, .top, .top, .top, .top, .top, .top, .top, .top, .top, .top, .top, und] ∧ Hold B h2 []) (fun st tm h2 R => ?_) R
  obtain ⟨w4, w5⟩ := st
  obtain ⟨rfl, O3⟩ := R
  rw [e_lb0_q46]
  unfold s0_q46
  dsimp only
  refine kA1 (v := iv (((a_.getD []).length : Nat) : Int)) (Tab.enc h2 a_).len ?_
  refine kA1 (v := bv (decide (w5 < (((a_.getD []).length : Nat) : Int)))) (kAh _ _) ?_
  refine kAa (fun c16 => ?_) (fun c16 => ?_)
  · refine kAo (Tab.enc h2 a_) (fun m18 a17 hi19 hm20 => ?_)
    refine kA1 (v := AV.agg [iv a17.nodes, Sl.enc a17.edges]) ((Tab.enc h2 a_).ld hm20 true 2 0) ?_
    refine kBg he_q45 (kAu _ a17 rfl) (kAr _ _) (fun c21 => ?_)
    refine kAm (kAb (by rfl) _ _) ?_
    refine kA1 (v := bv (decide (c21 < 0))) (kAh _ _) ?_
    refine kAa (fun c22 => ?_) (fun c22 => ?_)
    · exact kA5 ⟨nofun, _, _, _, rfl, O3⟩
    · refine kA1 (v := iv (wr (w5 + 1))) (kAk _ _) ?_
      exact kA5 ⟨rfl, rfl, O3⟩
  · exact kA5 ⟨nofun, _, _, _, rfl, O3⟩
theorem ts_q46 (env : Nat → Contract) (he_q45 : env n_q45 = .pure (C2 (fun c : Int => enc c) t_q45)) (a_ : Sl Lattice) (left_ : Int) : Sim (kAl Try.prog env n_q46 [Sl.enc a_, iv left_] []) (t_q46 a_ left_) fun c p => release p.2 depth p.1 = some ((fun c : Int => enc c) c) := by
  have O := Hold.nil []
  generalize hB : (⟨[], []⟩ : Base) = B at O
  clear hB
  rw [e_q46]
  unfold t_q46
  refine kA1 (v := iv (((a_.getD []).length : Nat) : Int)) (Tab.enc [] a_).len ?_
  refine kA1 (v := iv (wr (left_ - (((a_.getD []).length : Nat) : Int)))) (kC4 _ _) ?_
  refine kA1 (v := bv (decide ((wr (left_ - (((a_.getD []).length : Nat) : Int))) < 0))) (kAh _ _) ?_
  refine kAa (fun c1 => ?_) (fun c1 => ?_)
  · exact kA5 (kA3 (by rfl) _)
  · refine kB0 ((tl0_q46 env he_q45 a_ left_) ⟨rfl, O⟩) (fun qq27 r hq => ?_)
    rcases qq27 with q8 | q14
    · obtain ⟨q10, z9, h6, rfl, O7⟩ := hq
      rw [e_lk0x0_q46]
      exact kA5 (kA3 (by rfl) _)
    · obtain ⟨q13, q15, h11, rfl, O12⟩ := hq
      rw [e_lk0r_q46]
      exact kA5 (kA3 (by rfl) _)
theorem tt_q46 : kAi Try.prog n_q46 (C2 (fun c : Int => enc c) t_q46) := kC2 (kB7 tt_q45 E0) kBb hb_q46 fun a_ left_ => ts_q46 _ (by simp [kBw]) a_ left_
def t_q43 (a_ : Entry) (left_ : Int) : Option Int :=
  bif decide ((wr (left_ - (a_.word.size : Int))) < 0) then
    some (-1)
  else
    some (wr (left_ - (a_.word.size : Int)))
theorem ts_q43 (env : Nat → Contract)  (a_ : Entry) (left_ : Int) : Sim (kAl Try.prog env n_q43 [AV.agg [sv a_.word, iv a_.cost], iv left_] []) (t_q43 a_ left_) fun c p => release p.2 depth p.1 = some ((fun c : Int => enc c) c) := by
  have O := Hold.nil []
  generalize hB : (⟨[], []⟩ : Base) = B at O
  clear hB
  rw [e_q43]
  unfold t_q43
  refine kAv O (cs := [sv a_.word, iv a_.cost]) (by first | rfl | simp) (fun o1 h2 O3 => ?_)
  replace O3 : Hold B h2 [(AV.ptr o1 1 0 0, .pt 2 [sv a_.word, iv a_.cost])] := O3
  refine kA1 (v := AV.ptr o1 1 0 0) rfl ?_
  refine kA1 (v := sv a_.word) (O3.ld 0 rfl false 1 0) ?_
  refine kA1 (v := iv (a_.word.size : Int)) rfl ?_
  refine kA1 (v := iv (wr (left_ - (a_.word.size : Int)))) (kC4 _ _) ?_
  refine kA1 (v := bv (decide ((wr (left_ - (a_.word.size : Int))) < 0))) (kAh _ _) ?_
  refine kAa (fun c5 => ?_) (fun c5 => ?_)
  · exact kA5 (kA3 (by rfl) _)
  · exact kA5 (kA3 (by rfl) _)
theorem tt_q43 : kAi Try.prog n_q43 (C2 (fun c : Int => enc c) t_q43) := kC2 E0 kBb hb_q43 fun a_ left_ => ts_q43 _  a_ left_
def s0_q44 (a_ : Sl Entry) : (Int × Int) → Option (Sum (Int × Int) (Sum Int Int)) := fun (w4, w5) =>
  bif decide (w5 < (((a_.getD []).length : Nat) : Int)) then
    kA0 (kC1 (a_.getD []) w5) fun a17 =>
    kA0 (t_q43 a17 w4) fun c21 =>
    bif decide (c21 < 0) then
      some (.inr (.inr (-1)))
    else
      some (.inl (c21, wr (w5 + 1)))
  else
    some (.inr (.inl w4))
def t_q44 (a_ : Sl Entry) (left_ : Int) : Option Int :=
  bif decide ((wr (left_ - (((a_.getD []).length : Nat) : Int))) < 0) then
    some (-1)
  else
    kA0 (kAw (s0_q44 a_) (wr (left_ - (((a_.getD []).length : Nat) : Int)), 0)) fun qq27 => match qq27 with
    | (.inl q8) =>
        some q8
    | (.inr q14) =>
        some q14
theorem tl0_q44 (env : Nat → Contract) {B : Base} (he_q43 : env n_q43 = .pure (C2 (fun c : Int => enc c) t_q43)) (a_ : Sl Entry) (left_ : Int)  {st : Int × Int} {tm : TM} {h : kA7} (R : (fun (st : Int × Int) tm h2 => match st with | (w4, w5) => tm = [Sl.enc a_, iv w4, und, und, .top, iv w5, iv left_, Sl.enc a_, iv (((a_.getD []).length : Nat) : Int), iv (wr (left_ - (((a_.getD []).length : Nat) : Int))), iv (wr (left_ - (((a_.getD []).length : Nat) : Int))), bv (decide ((wr (left_ - (((a_.getD []).length : Nat) : Int))) < 0)), .top, .top, .top, .top, .top, .top, .top, .top, .top, .top, .top, .top, .top, .top, und] ∧ Hold B h2 []) st tm h) : Sim (kB3 hm0_q44 xm0_q44 (lb0_q44 env) tm h) (kAw (s0_q44 a_) st) (fun (q : Sum Int Int) (r : Res) => match q with | .inl q8 => ∃ (q10 : Int) (z9 : AV) (h6 : kA7), r = (.exit 0, [Sl.enc a_, iv q8, und, und, z9, iv q10, iv left_, Sl.enc a_, iv (((a_.getD []).length : Nat) : Int), iv (wr (left_ - (((a_.getD []).length : Nat) : Int))), iv (wr (left_ - (((a_.getD []).length : Nat) : Int))), bv (decide ((wr (left_ - (((a_.getD []).length : Nat) : Int))) < 0)), .top, .top, .top, .top, .top, .top, .top, .top, .top, .top, .top, .top, .top, .top, und], h6) ∧ Hold B h6 [] | .inr q14 => ∃ (q13 : Int) (q15 : Int) (h11 : kA7), r = (.ret, [Sl.enc a_, iv q13, und, und, iv q14, iv q15, iv left_, Sl.enc a_, iv (((a_.getD []).length : Nat) : Int), iv (wr (left_ - (((a_.getD []).length : Nat) : Int))), iv (wr (left_ - (((a_.getD []).length : Nat) : Int))), bv (decide ((wr (left_ - (((a_.getD []).length : Nat) : Int))) < 0)), .top, .top, .top, .top, .top, .top, .top, .top, .top, .top, .top, .top, .top, .top, und], h11) ∧ Hold B h11 []) := by
  refine kB1 (Rel := fun (st : Int × Int) tm h2 => match st with | (w4, w5) => tm = [Sl.enc a_, iv w4, und, und, .top, iv w5, iv left_, Sl.enc a_, iv (((a_.getD []).length : Nat) : Int), iv (wr (left_ - (((a_.getD []).length : Nat) : Int))), iv (wr (left_ - (((a_.getD []).length : Nat) : Int))), bv (decide ((wr (left_ - (((a_.getD []).length : Nat) : Int))) < 0)), .top, .top, .top, .top, .top, .top, .top, .top, .top, .top, .top, .top, .top, .top, und] ∧ Hold B h2 []) (fun st tm h2 R => ?_) R
  obtain ⟨w4, w5⟩ := st
  obtain ⟨rfl, O3⟩ := R
  rw [e_lb0_q44]
  unfold s0_q44
  dsimp only
  refine kA1 (v := iv (((a_.getD []).length : Nat) : Int)) (Tab.enc h2 a_).len ?_
  refine kA1 (v := bv (decide (w5 < (((a_.getD []).length : Nat) : Int)))) (kAh _ _) ?_
  refine kAa (fun c16 => ?_) (fun c16 => ?_)
  · refine kAo (Tab.enc h2 a_) (fun m18 a17 hi19 hm20 => ?_)
    refine kA1 (v := AV.agg [sv a17.word, iv a17.cost]) ((Tab.enc h2 a_).ld hm20 true 2 0) ?_
    refine kBg he_q43 (kAu _ a17 rfl) (kAr _ _) (fun c21 => ?_)
    refine kAm (kAb (by rfl) _ _) ?_
    refine kA1 (v := bv (decide (c21 < 0))) (kAh _ _) ?_
    refine kAa (fun c22 => ?_) (fun c22 => ?_)
    · exact kA5 ⟨nofun, _, _, _, rfl, O3⟩
    · refine kA1 (v := iv (wr (w5 + 1))) (kAk _ _) ?_
      exact kA5 ⟨rfl, rfl, O3⟩
  · exact kA5 ⟨nofun, _, _, _, rfl, O3⟩
theorem ts_q44 (env : Nat → Contract) (he_q43 : env n_q43 = .pure (C2 (fun c : Int => enc c) t_q43)) (a_ : Sl Entry) (left_ : Int) : Sim (kAl Try.prog env n_q44 [Sl.enc a_, iv left_] []) (t_q44 a_ left_) fun c p => release p.2 depth p.1 = some ((fun c : Int => enc c) c) := by
  have O := Hold.nil []
  generalize hB : (⟨[], []⟩ : Base) = B at O
  clear hB
  rw [e_q44]
  unfold t_q44
  refine kA1 (v := iv (((a_.getD []).length : Nat) : Int)) (Tab.enc [] a_).len ?_
  refine kA1 (v := iv (wr (left_ - (((a_.getD []).length : Nat) : Int)))) (kC4 _ _) ?_
  refine kA1 (v := bv (decide ((wr (left_ - (((a_.getD []).length : Nat) : Int))) < 0))) (kAh _ _) ?_
  refine kAa (fun c1 => ?_) (fun c1 => ?_)
  · exact kA5 (kA3 (by rfl) _)
  · refine kB0 ((tl0_q44 env he_q43 a_ left_) ⟨rfl, O⟩) (fun qq27 r hq => ?_)
    rcases qq27 with q8 | q14
    · obtain ⟨q10, z9, h6, rfl, O7⟩ := hq
      rw [e_lk0x0_q44]
      exact kA5 (kA3 (by rfl) _)
    · obtain ⟨q13, q15, h11, rfl, O12⟩ := hq
      rw [e_lk0r_q44]
      exact kA5 (kA3 (by rfl) _)
theorem tt_q44 : kAi Try.prog n_q44 (C2 (fun c : Int => enc c) t_q44) := kC2 (kB7 tt_q43 E0) kBb hb_q44 fun a_ left_ => ts_q44 _ (by simp [kBw]) a_ left_
def t_q47 (a_ : Lexicon) (left_ : Int) : Option Int :=
  kA0 (t_q44 a_.entries left_) fun c5 =>
  bif decide (c5 < 0) then
    some (-1)
  else
    some c5
theorem ts_q47 (env : Nat → Contract) (he_q44 : env n_q44 = .pure (C2 (fun c : Int => enc c) t_q44)) (a_ : Lexicon) (left_ : Int) : Sim (kAl Try.prog env n_q47 [AV.agg [Sl.enc a_.entries], iv left_] []) (t_q47 a_ left_) fun c p => release p.2 depth p.1 = some ((fun c : Int => enc c) c) := by
  have O := Hold.nil []
  generalize hB : (⟨[], []⟩ : Base) = B at O
  clear hB
  rw [e_q47]
  unfold t_q47
  refine kAv O (cs := [Sl.enc a_.entries]) (by first | rfl | simp) (fun o1 h2 O3 => ?_)
  replace O3 : Hold B h2 [(AV.ptr o1 1 0 0, .pt 1 [Sl.enc a_.entries])] := O3
  refine kA1 (v := AV.ptr o1 1 0 0) rfl ?_
  refine kA1 (v := Sl.enc a_.entries) (O3.ld 0 rfl false 1 0) ?_
  refine kBg he_q44 (kB9 _ _) (kAr _ _) (fun c5 => ?_)
  refine kAm (kAb (by rfl) _ _) ?_
  refine kA1 (v := bv (decide (c5 < 0))) (kAh _ _) ?_
  refine kAa (fun c6 => ?_) (fun c6 => ?_)
  · exact kA5 (kA3 (by rfl) _)
  · exact kA5 (kA3 (by rfl) _)
theorem tt_q47 : kAi Try.prog n_q47 (C2 (fun c : Int => enc c) t_q47) := kC2 (kB7 tt_q44 E0) kBb hb_q47 fun a_ left_ => ts_q47 _ (by simp [kBw]) a_ left_
def s0_q49 (a_ : Sl ByteArray) : (Int × Int) → Option (Sum (Int × Int) (Sum Int Int)) := fun (w4, w5) =>
  bif decide (w5 < (((a_.getD []).length : Nat) : Int)) then
    kA0 (kC1 (a_.getD []) w5) fun a17 =>
    bif decide ((wr (w4 - (a17.size : Int))) < 0) then
      some (.inr (.inr (-1)))
    else
      some (.inl (wr (w4 - (a17.size : Int)), wr (w5 + 1)))
  else
    some (.inr (.inl w4))
def t_q49 (a_ : Sl ByteArray) (left_ : Int) : Option Int :=
  bif decide ((wr (left_ - (((a_.getD []).length : Nat) : Int))) < 0) then
    some (-1)
  else
    kA0 (kAw (s0_q49 a_) (wr (left_ - (((a_.getD []).length : Nat) : Int)), 0)) fun qq26 => match qq26 with
    | (.inl q8) =>
        some q8
    | (.inr q14) =>
        some q14
theorem tl0_q49 (env : Nat → Contract) {B : Base}  (a_ : Sl ByteArray) (left_ : Int)  {st : Int × Int} {tm : TM} {h : kA7} (R : (fun (st : Int × Int) tm h2 => match st with | (w4, w5) => tm = [Sl.enc a_, iv w4, und, und, .top, iv w5, iv left_, Sl.enc a_, iv (((a_.getD []).length : Nat) : Int), iv (wr (left_ - (((a_.getD []).length : Nat) : Int))), iv (wr (left_ - (((a_.getD []).length : Nat) : Int))), bv (decide ((wr (left_ - (((a_.getD []).length : Nat) : Int))) < 0)), .top, .top, .top, .top, .top, .top, .top, .top, .top, .top, .top, .top, .top, .top, .top, und] ∧ Hold B h2 []) st tm h) : Sim (kB3 hm0_q49 xm0_q49 (lb0_q49 env) tm h) (kAw (s0_q49 a_) st) (fun (q : Sum Int Int) (r : Res) => match q with | .inl q8 => ∃ (q10 : Int) (z9 : AV) (h6 : kA7), r = (.exit 0, [Sl.enc a_, iv q8, und, und, z9, iv q10, iv left_, Sl.enc a_, iv (((a_.getD []).length : Nat) : Int), iv (wr (left_ - (((a_.getD []).length : Nat) : Int))), iv (wr (left_ - (((a_.getD []).length : Nat) : Int))), bv (decide ((wr (left_ - (((a_.getD []).length : Nat) : Int))) < 0)), .top, .top, .top, .top, .top, .top, .top, .top, .top, .top, .top, .top, .top, .top, .top, und], h6) ∧ Hold B h6 [] | .inr q14 => ∃ (q13 : Int) (q15 : Int) (h11 : kA7), r = (.ret, [Sl.enc a_, iv q13, und, und, iv q14, iv q15, iv left_, Sl.enc a_, iv (((a_.getD []).length : Nat) : Int), iv (wr (left_ - (((a_.getD []).length : Nat) : Int))), iv (wr (left_ - (((a_.getD []).length : Nat) : Int))), bv (decide ((wr (left_ - (((a_.getD []).length : Nat) : Int))) < 0)), .top, .top, .top, .top, .top, .top, .top, .top, .top, .top, .top, .top, .top, .top, .top, und], h11) ∧ Hold B h11 []) := by
  refine kB1 (Rel := fun (st : Int × Int) tm h2 => match st with | (w4, w5) => tm = [Sl.enc a_, iv w4, und, und, .top, iv w5, iv left_, Sl.enc a_, iv (((a_.getD []).length : Nat) : Int), iv (wr (left_ - (((a_.getD []).length : Nat) : Int))), iv (wr (left_ - (((a_.getD []).length : Nat) : Int))), bv (decide ((wr (left_ - (((a_.getD []).length : Nat) : Int))) < 0)), .top, .top, .top, .top, .top, .top, .top, .top, .top, .top, .top, .top, .top, .top, .top, und] ∧ Hold B h2 []) (fun st tm h2 R => ?_) R
  obtain ⟨w4, w5⟩ := st
  obtain ⟨rfl, O3⟩ := R
  rw [e_lb0_q49]
  unfold s0_q49
  dsimp only
  refine kA1 (v := iv (((a_.getD []).length : Nat) : Int)) (Tab.enc h2 a_).len ?_
  refine kA1 (v := bv (decide (w5 < (((a_.getD []).length : Nat) : Int)))) (kAh _ _) ?_
  refine kAa (fun c16 => ?_) (fun c16 => ?_)
  · refine kAo (Tab.enc h2 a_) (fun m18 a17 hi19 hm20 => ?_)
    refine kA1 (v := sv a17) ((Tab.enc h2 a_).ld hm20 false 1 0) ?_
    refine kA1 (v := iv (a17.size : Int)) rfl ?_
    refine kA1 (v := iv (wr (w4 - (a17.size : Int)))) (kC4 _ _) ?_
    refine kA1 (v := bv (decide ((wr (w4 - (a17.size : Int))) < 0))) (kAh _ _) ?_
    refine kAa (fun c21 => ?_) (fun c21 => ?_)
    · exact kA5 ⟨nofun, _, _, _, rfl, O3⟩
    · refine kA1 (v := iv (wr (w5 + 1))) (kAk _ _) ?_
      exact kA5 ⟨rfl, rfl, O3⟩
  · exact kA5 ⟨nofun, _, _, _, rfl, O3⟩
theorem ts_q49 (env : Nat → Contract)  (a_ : Sl ByteArray) (left_ : Int) : Sim (kAl Try.prog env n_q49 [Sl.enc a_, iv left_] []) (t_q49 a_ left_) fun c p => release p.2 depth p.1 = some ((fun c : Int => enc c) c) := by
  have O := Hold.nil []
  generalize hB : (⟨[], []⟩ : Base) = B at O
  clear hB
  rw [e_q49]
  unfold t_q49
  refine kA1 (v := iv (((a_.getD []).length : Nat) : Int)) (Tab.enc [] a_).len ?_
  refine kA1 (v := iv (wr (left_ - (((a_.getD []).length : Nat) : Int)))) (kC4 _ _) ?_
  refine kA1 (v := bv (decide ((wr (left_ - (((a_.getD []).length : Nat) : Int))) < 0))) (kAh _ _) ?_
  refine kAa (fun c1 => ?_) (fun c1 => ?_)
  · exact kA5 (kA3 (by rfl) _)
  · refine kB0 ((tl0_q49 env a_ left_) ⟨rfl, O⟩) (fun qq26 r hq => ?_)
    rcases qq26 with q8 | q14
    · obtain ⟨q10, z9, h6, rfl, O7⟩ := hq
      rw [e_lk0x0_q49]
      exact kA5 (kA3 (by rfl) _)
    · obtain ⟨q13, q15, h11, rfl, O12⟩ := hq
      rw [e_lk0r_q49]
      exact kA5 (kA3 (by rfl) _)
theorem tt_q49 : kAi Try.prog n_q49 (C2 (fun c : Int => enc c) t_q49) := kC2 E0 kBb hb_q49 fun a_ left_ => ts_q49 _  a_ left_
def t_q52 (a_ : Edg) : Option Edg :=
  some a_
theorem ts_q52 (env : Nat → Contract)  (a_ : Edg) : Sim (kAl Try.prog env n_q52 [AV.agg [iv a_.frm, iv a_.upto, sv a_.label, iv a_.cost]] []) (t_q52 a_) fun c p => release p.2 depth p.1 = some ((fun c : Edg => enc c) c) := by
  have O := Hold.nil []
  generalize hB : (⟨[], []⟩ : Base) = B at O
  clear hB
  rw [e_q52]
  unfold t_q52
  refine kAv O (cs := [iv a_.frm, iv a_.upto, sv a_.label, iv a_.cost]) (by first | rfl | simp) (fun o1 h2 O3 => ?_)
  replace O3 : Hold B h2 [(AV.ptr o1 1 0 0, .pt 4 [iv a_.frm, iv a_.upto, sv a_.label, iv a_.cost])] := O3
  refine kAv O3 (cs := [iv 0, iv 0, sv (⟨#[]⟩ : ByteArray), iv 0]) (by first | rfl | simp) (fun o5 h6 O7 => ?_)
  replace O7 : Hold B h6 [(AV.ptr o1 1 0 0, .pt 4 [iv a_.frm, iv a_.upto, sv a_.label, iv a_.cost]), (AV.ptr o5 1 0 0, .pt 4 [iv 0, iv 0, sv (⟨#[]⟩ : ByteArray), iv 0])] := O7
  refine kAv O7 (cs := [iv 0, iv 0, sv (⟨#[]⟩ : ByteArray), iv 0]) (by first | rfl | simp) (fun o9 h10 O11 => ?_)
  replace O11 : Hold B h10 [(AV.ptr o1 1 0 0, .pt 4 [iv a_.frm, iv a_.upto, sv a_.label, iv a_.cost]), (AV.ptr o5 1 0 0, .pt 4 [iv 0, iv 0, sv (⟨#[]⟩ : ByteArray), iv 0]), (AV.ptr o9 1 0 0, .pt 4 [iv 0, iv 0, sv (⟨#[]⟩ : ByteArray), iv 0])] := O11
  refine kA1 (v := AV.ptr o1 1 0 0) rfl ?_
  refine kA1 (v := iv a_.frm) (O11.ld 0 rfl false 1 0) ?_
  refine kA1 (v := AV.ptr o9 1 0 0) rfl ?_
  refine kBr O11 2 (cs' := [iv a_.frm, iv 0, sv (⟨#[]⟩ : ByteArray), iv 0]) rfl (by first | rfl | simp) (by simp) (by first | rfl | simp) (by first | rfl | simp [kBk]) (fun h13 O14 => ?_)
  replace O14 : Hold B h13 [(AV.ptr o1 1 0 0, .pt 4 [iv a_.frm, iv a_.upto, sv a_.label, iv a_.cost]), (AV.ptr o5 1 0 0, .pt 4 [iv 0, iv 0, sv (⟨#[]⟩ : ByteArray), iv 0]), (AV.ptr o9 1 0 0, .pt 4 [iv a_.frm, iv 0, sv (⟨#[]⟩ : ByteArray), iv 0])] := O14
  refine kA1 (v := AV.ptr o1 1 0 1) rfl ?_
  refine kA1 (v := iv a_.upto) (O14.ld 0 rfl false 1 1) ?_
  refine kA1 (v := AV.ptr o9 1 0 1) rfl ?_
  refine kBr O14 2 (cs' := [iv a_.frm, iv a_.upto, sv (⟨#[]⟩ : ByteArray), iv 0]) rfl (by first | rfl | simp) (by simp) (by first | rfl | simp) (by first | rfl | simp [kBk]) (fun h15 O16 => ?_)
  replace O16 : Hold B h15 [(AV.ptr o1 1 0 0, .pt 4 [iv a_.frm, iv a_.upto, sv a_.label, iv a_.cost]), (AV.ptr o5 1 0 0, .pt 4 [iv 0, iv 0, sv (⟨#[]⟩ : ByteArray), iv 0]), (AV.ptr o9 1 0 0, .pt 4 [iv a_.frm, iv a_.upto, sv (⟨#[]⟩ : ByteArray), iv 0])] := O16
  refine kA1 (v := AV.ptr o1 1 0 2) rfl ?_
  refine kA1 (v := sv a_.label) (O16.ld 0 rfl false 1 2) ?_
  refine kA1 (v := AV.ptr o9 1 0 2) rfl ?_
  refine kBr O16 2 (cs' := [iv a_.frm, iv a_.upto, sv a_.label, iv 0]) rfl (by first | rfl | simp) (by simp) (by first | rfl | simp) (by first | rfl | simp [kBk]) (fun h17 O18 => ?_)
  replace O18 : Hold B h17 [(AV.ptr o1 1 0 0, .pt 4 [iv a_.frm, iv a_.upto, sv a_.label, iv a_.cost]), (AV.ptr o5 1 0 0, .pt 4 [iv 0, iv 0, sv (⟨#[]⟩ : ByteArray), iv 0]), (AV.ptr o9 1 0 0, .pt 4 [iv a_.frm, iv a_.upto, sv a_.label, iv 0])] := O18
  refine kA1 (v := AV.ptr o1 1 0 3) rfl ?_
  refine kA1 (v := iv a_.cost) (O18.ld 0 rfl false 1 3) ?_
  refine kA1 (v := AV.ptr o9 1 0 3) rfl ?_
  refine kBr O18 2 (cs' := [iv a_.frm, iv a_.upto, sv a_.label, iv a_.cost]) rfl (by first | rfl | simp) (by simp) (by first | rfl | simp) (by first | rfl | simp [kBk]) (fun h19 O20 => ?_)
  replace O20 : Hold B h19 [(AV.ptr o1 1 0 0, .pt 4 [iv a_.frm, iv a_.upto, sv a_.label, iv a_.cost]), (AV.ptr o5 1 0 0, .pt 4 [iv 0, iv 0, sv (⟨#[]⟩ : ByteArray), iv 0]), (AV.ptr o9 1 0 0, .pt 4 [iv a_.frm, iv a_.upto, sv a_.label, iv a_.cost])] := O20
  refine kA1 (v := AV.agg [iv a_.frm, iv a_.upto, sv a_.label, iv a_.cost]) (O20.ld 2 rfl true 4 0) ?_
  refine kBr O20 1 (cs' := [iv a_.frm, iv a_.upto, sv a_.label, iv a_.cost]) rfl (by first | rfl | simp) (by simp) (by first | rfl | simp) (by first | rfl | simp [kBk]) (fun h21 O22 => ?_)
  replace O22 : Hold B h21 [(AV.ptr o1 1 0 0, .pt 4 [iv a_.frm, iv a_.upto, sv a_.label, iv a_.cost]), (AV.ptr o5 1 0 0, .pt 4 [iv a_.frm, iv a_.upto, sv a_.label, iv a_.cost]), (AV.ptr o9 1 0 0, .pt 4 [iv a_.frm, iv a_.upto, sv a_.label, iv a_.cost])] := O22
  refine kHn (resL_c (v := AV.agg [iv a_.frm, iv a_.upto, sv a_.label, iv a_.cost]) (O22.ld 1 rfl true 4 0) (kI1 _)) ?_
  dsimp only [pack]
  exact kA5 (kA3 (by rfl) _)
theorem tt_q52 : kAi Try.prog n_q52 (C1 (fun c : Edg => enc c) t_q52) := kD1 E0 kBb hb_q52 fun a_ => ts_q52 _  a_
def s0_q53 (a_ : Sl Edg) : ((Sl Edg) × Int) → Option (Sum ((Sl Edg) × Int) (Sl Edg)) := fun (w6, w9) =>
  bif decide (w9 < (((a_.getD []).length : Nat) : Int)) then
    kA0 (kC1 (a_.getD []) w9) fun a15 =>
    kA0 (t_q52 a15) fun c19 =>
    kA0 (kC1 (w6.getD []) w9) fun a20 =>
    some (.inl ((kGk w6 w9 c19), wr (w9 + 1)))
  else
    some (.inr w6)
def t_q53 (a_ : Sl Edg) : Option (Sl Edg) :=
  kA0 (kH8 (⟨0, 0, (⟨#[]⟩ : ByteArray), 0⟩ : Edg) (((a_.getD []).length : Nat) : Int)) fun l5 =>
  kA0 (kAw (s0_q53 a_) ((some l5), 0)) fun q12 =>
  some q12
theorem tl0_q53 (env : Nat → Contract) {B : Base} (he_q52 : env n_q52 = .pure (C1 (fun c : Edg => enc c) t_q52)) (a_ : Sl Edg) (x1 : AV)  {st : (Sl Edg) × Int} {tm : TM} {h : kA7} (R : (fun (st : (Sl Edg) × Int) tm h7 => match st with | (w6, w9) => tm = [Sl.enc a_, und, kBv, x1, iv w9, Sl.enc a_, iv (((a_.getD []).length : Nat) : Int), x1, .top, .top, .top, .top, .top, .top, .top, .top, .top, .top, .top, .top, .top, .top, und] ∧ Hold B h7 [(x1, obS (w6 : Sl Edg))]) st tm h) : Sim (kB3 hm0_q53 xm0_q53 (lb0_q53 env) tm h) (kAw (s0_q53 a_) st) (fun (q : Sl Edg) (r : Res) => match q with | q12 => ∃ (q13 : Int) (h10 : kA7), r = (.exit 0, [Sl.enc a_, und, kBv, x1, iv q13, Sl.enc a_, iv (((a_.getD []).length : Nat) : Int), x1, .top, .top, .top, .top, .top, .top, .top, .top, .top, .top, .top, .top, .top, .top, und], h10) ∧ Hold B h10 [(x1, obS (q12 : Sl Edg))]) := by
  refine kB1 (Rel := fun (st : (Sl Edg) × Int) tm h7 => match st with | (w6, w9) => tm = [Sl.enc a_, und, kBv, x1, iv w9, Sl.enc a_, iv (((a_.getD []).length : Nat) : Int), x1, .top, .top, .top, .top, .top, .top, .top, .top, .top, .top, .top, .top, .top, .top, und] ∧ Hold B h7 [(x1, obS (w6 : Sl Edg))]) (fun st tm h7 R => ?_) R
  obtain ⟨w6, w9⟩ := st
  obtain ⟨rfl, O8⟩ := R
  rw [e_lb0_q53]
  unfold s0_q53
  dsimp only
  refine kA1 (v := iv (((a_.getD []).length : Nat) : Int)) (Tab.enc h7 a_).len ?_
  refine kA1 (v := bv (decide (w9 < (((a_.getD []).length : Nat) : Int)))) (kAh _ _) ?_
  refine kAa (fun c14 => ?_) (fun c14 => ?_)
  · refine kAo (Tab.enc h7 a_) (fun m16 a15 hi17 hm18 => ?_)
    refine kA1 (v := AV.agg [iv a15.frm, iv a15.upto, sv a15.label, iv a15.cost]) ((Tab.enc h7 a_).ld hm18 true 4 0) ?_
    refine kBp he_q52 (kAu _ a15 rfl) (fun c19 => ?_)
    refine kAm (kAb (by rfl) _ _) ?_
    refine kAo (O8.tab (A := Edg) (s := w6) 0 rfl) (fun m21 a20 hi22 hm23 => ?_)
    refine kEl (A := Edg) O8 0 c19 rfl hi22 hm23 rfl (by simp) (by first | rfl | simp) (by first | rfl | simp [kBk]) (fun h24 O25 => ?_)
    replace O25 : Hold B h24 [(x1, obS ((kGk w6 w9 c19) : Sl Edg))] := O25
    refine kA1 (v := iv (wr (w9 + 1))) (kAk _ _) ?_
    exact kA5 ⟨rfl, rfl, O25⟩
  · exact kA5 ⟨nofun, _, _, rfl, O8⟩
theorem ts_q53 (env : Nat → Contract) (he_q52 : env n_q52 = .pure (C1 (fun c : Edg => enc c) t_q52)) (a_ : Sl Edg) : Sim (kAl Try.prog env n_q53 [Sl.enc a_] []) (t_q53 a_) fun c p => release p.2 depth p.1 = some ((fun c : (Sl Edg) => rS c) c) := by
  have O := Hold.nil []
  generalize hB : (⟨[], []⟩ : Base) = B at O
  clear hB
  rw [e_q53]
  unfold t_q53
  refine kA1 (v := iv (((a_.getD []).length : Nat) : Int)) (Tab.enc [] a_).len ?_
  refine kFl (A := Edg) O (⟨0, 0, (⟨#[]⟩ : ByteArray), 0⟩ : Edg) rfl (by decide) (fun l5 x1 h2 O3 => ?_)
  replace O3 : Hold B h2 [(x1, obS ((some l5) : Sl Edg))] := O3
  refine kB0 ((tl0_q53 env he_q52 a_ x1) ⟨rfl, O3⟩) (fun qq29 r hq => ?_)
  revert hq
  revert qq29
  intro q12 hq
  obtain ⟨q13, h10, rfl, O11⟩ := hq
  rw [e_lk0x0_q53]
  exact kA5 (O11.rel (A := Edg) (s := q12) 0 rfl)
theorem tt_q53 : kAi Try.prog n_q53 (C1 (fun c : (Sl Edg) => rS c) t_q53) := kD1 (kB7 tt_q52 E0) kBb hb_q53 fun a_ => ts_q53 _ (by simp [kBw]) a_
def t_q56 (a_ : Lattice) : Option Lattice :=
  kA0 (t_q53 a_.edges) fun c15 =>
  some (⟨a_.nodes, c15⟩ : Lattice)
theorem ts_q56 (env : Nat → Contract) (he_q53 : env n_q53 = .pure (C1 (fun c : (Sl Edg) => rS c) t_q53)) (a_ : Lattice) : Sim (kAl Try.prog env n_q56 [AV.agg [iv a_.nodes, Sl.enc a_.edges]] []) (t_q56 a_) fun c p => release p.2 depth p.1 = some ((fun c : Lattice => AV.agg [iv c.nodes, rS c.edges]) c) := by
  have O := Hold.nil []
  generalize hB : (⟨[], []⟩ : Base) = B at O
  clear hB
  rw [e_q56]
  unfold t_q56
  refine kAv O (cs := [iv a_.nodes, Sl.enc a_.edges]) (by first | rfl | simp) (fun o1 h2 O3 => ?_)
  replace O3 : Hold B h2 [(AV.ptr o1 1 0 0, .pt 2 [iv a_.nodes, Sl.enc a_.edges])] := O3
  refine kAv O3 (cs := [iv 0, kBv]) (by first | rfl | simp) (fun o5 h6 O7 => ?_)
  replace O7 : Hold B h6 [(AV.ptr o1 1 0 0, .pt 2 [iv a_.nodes, Sl.enc a_.edges]), (AV.ptr o5 1 0 0, .pt 2 [iv 0, kBv])] := O7
  refine kAv O7 (cs := [iv 0, kBv]) (by first | rfl | simp) (fun o9 h10 O11 => ?_)
  replace O11 : Hold B h10 [(AV.ptr o1 1 0 0, .pt 2 [iv a_.nodes, Sl.enc a_.edges]), (AV.ptr o5 1 0 0, .pt 2 [iv 0, kBv]), (AV.ptr o9 1 0 0, .pt 2 [iv 0, kBv])] := O11
  refine kA1 (v := AV.ptr o1 1 0 0) rfl ?_
  refine kA1 (v := iv a_.nodes) (O11.ld 0 rfl false 1 0) ?_
  refine kA1 (v := AV.ptr o9 1 0 0) rfl ?_
  refine kBr O11 2 (cs' := [iv a_.nodes, kBv]) rfl (by first | rfl | simp) (by simp) (by first | rfl | simp) (by first | rfl | simp [kBk]) (fun h13 O14 => ?_)
  replace O14 : Hold B h13 [(AV.ptr o1 1 0 0, .pt 2 [iv a_.nodes, Sl.enc a_.edges]), (AV.ptr o5 1 0 0, .pt 2 [iv 0, kBv]), (AV.ptr o9 1 0 0, .pt 2 [iv a_.nodes, kBv])] := O14
  refine kA1 (v := AV.ptr o1 1 0 1) rfl ?_
  refine kA1 (v := Sl.enc a_.edges) (O14.ld 0 rfl false 1 1) ?_
  refine kBp he_q53 (kB9 _ _) (fun c15 => ?_)
  refine kGj (A := Edg) O14 (fun x17 h18 O19 => ?_)
  replace O19 : Hold B h18 [(AV.ptr o1 1 0 0, .pt 2 [iv a_.nodes, Sl.enc a_.edges]), (AV.ptr o5 1 0 0, .pt 2 [iv 0, kBv]), (AV.ptr o9 1 0 0, .pt 2 [iv a_.nodes, kBv]), (x17, obS (c15 : Sl Edg))] := O19
  refine kA1 (v := AV.ptr o9 1 0 1) rfl ?_
  refine kBr O19 2 (cs' := [iv a_.nodes, x17]) rfl (by first | rfl | simp [(O19.one (A := Edg) (s := c15) 3 rfl).1, (O19.one (A := Edg) (s := c15) 3 rfl).2]) (by simp) (by first | rfl | simp [(O19.one (A := Edg) (s := c15) 3 rfl).1, (O19.one (A := Edg) (s := c15) 3 rfl).2]) (by first | rfl | simp [kBk, (O19.one (A := Edg) (s := c15) 3 rfl).1, (O19.one (A := Edg) (s := c15) 3 rfl).2]) (fun h20 O21 => ?_)
  replace O21 : Hold B h20 [(AV.ptr o1 1 0 0, .pt 2 [iv a_.nodes, Sl.enc a_.edges]), (AV.ptr o5 1 0 0, .pt 2 [iv 0, kBv]), (AV.ptr o9 1 0 0, .pt 2 [iv a_.nodes, x17]), (x17, obS (c15 : Sl Edg))] := O21
  refine kA1 (v := AV.agg [iv a_.nodes, x17]) (O21.ld 2 rfl true 2 0) ?_
  refine kBr O21 1 (cs' := [iv a_.nodes, x17]) rfl (by first | rfl | simp [(O21.one (A := Edg) (s := c15) 3 rfl).1, (O21.one (A := Edg) (s := c15) 3 rfl).2]) (by simp) (by first | rfl | simp [(O21.one (A := Edg) (s := c15) 3 rfl).1, (O21.one (A := Edg) (s := c15) 3 rfl).2]) (by first | rfl | simp [kBk, (O21.one (A := Edg) (s := c15) 3 rfl).1, (O21.one (A := Edg) (s := c15) 3 rfl).2]) (fun h22 O23 => ?_)
  replace O23 : Hold B h22 [(AV.ptr o1 1 0 0, .pt 2 [iv a_.nodes, Sl.enc a_.edges]), (AV.ptr o5 1 0 0, .pt 2 [iv a_.nodes, x17]), (AV.ptr o9 1 0 0, .pt 2 [iv a_.nodes, x17]), (x17, obS (c15 : Sl Edg))] := O23
  refine kHn (resL_c (v := AV.agg [iv a_.nodes, x17]) (O23.ld 1 rfl true 2 0) (kI1 _)) ?_
  dsimp only [pack]
  have O24 : Hold B h22 [(x17, obS (c15 : Sl Edg))] := O23.sel [3] (by decide) rfl
  exact kA5 (kGg (by simp only [ids_tup, ids_aggD, ids_agg, ids_iv, ids_bv, ids_sv, ids_bt, ids_nilS, ids_enc, O24.idsD (A := Edg) (s := c15) 0 rfl, List.map_append, List.map_nil, List.flatMap_cons, List.flatMap_nil, List.append_nil, List.nil_append]; simpa only [List.flatMap_cons, List.flatMap_nil, List.append_nil, List.nil_append] using O24.nd2) (by simp only [rel_tup, rel_aggD, rel_agg, rel_iv, rel_bv, rel_sv, rel_bt, rel_nilS, rel_enc, O24.relD (A := Edg) (s := c15) 0 rfl, omapc, omapn, kA6] <;> rfl))
theorem tt_q56 : kAi Try.prog n_q56 (C1 (fun c : Lattice => AV.agg [iv c.nodes, rS c.edges]) t_q56) := kD1 (kB7 tt_q53 E0) kBb hb_q56 fun a_ => ts_q56 _ (by simp [kBw]) a_
def s0_q57 (a_ : Sl Lattice) : ((Sl Lattice) × Int) → Option (Sum ((Sl Lattice) × Int) (Sl Lattice)) := fun (w8, w13) =>
  bif decide (w13 < (((a_.getD []).length : Nat) : Int)) then
    kA0 (kC1 (a_.getD []) w13) fun a22 =>
    kA0 (t_q56 a22) fun c26 =>
    kA0 (kC1 (w8.getD []) w13) fun a31 =>
    some (.inl ((kGk w8 w13 (⟨c26.nodes, c26.edges⟩ : Lattice)), wr (w13 + 1)))
  else
    some (.inr w8)
def t_q57 (a_ : Sl Lattice) : Option (Sl Lattice) :=
  kA0 (kH8 (⟨0, (none : Sl Edg)⟩ : Lattice) (((a_.getD []).length : Nat) : Int)) fun l5 =>
  kA0 (kAw (s0_q57 a_) ((some l5), 0)) fun q16 =>
  some q16
theorem tl0_q57 (env : Nat → Contract) {B : Base} (he_q56 : env n_q56 = .pure (C1 (fun c : Lattice => AV.agg [iv c.nodes, rS c.edges]) t_q56)) (a_ : Sl Lattice) (x1 : AV)  {st : (Sl Lattice) × Int} {tm : TM} {h : kA7} (R : (fun (st : (Sl Lattice) × Int) tm h11 => match st with | (w8, w13) => ∃ ps9 : PS Lattice, tm = [Sl.enc a_, und, kBv, x1, iv w13, Sl.enc a_, iv (((a_.getD []).length : Nat) : Int), x1, .top, .top, .top, .top, .top, .top, .top, .top, .top, .top, .top, .top, .top, .top, und] ∧ pj ps9 = w8 ∧ Hold B h11 ([] ++ D2 (A := Lattice) x1 ps9)) st tm h) : Sim (kB3 hm0_q57 xm0_q57 (lb0_q57 env) tm h) (kAw (s0_q57 a_) st) (fun (q : Sl Lattice) (r : Res) => match q with | q16 => ∃ (q19 : Int) (ps17 : PS Lattice) (h14 : kA7), r = (.exit 0, [Sl.enc a_, und, kBv, x1, iv q19, Sl.enc a_, iv (((a_.getD []).length : Nat) : Int), x1, .top, .top, .top, .top, .top, .top, .top, .top, .top, .top, .top, .top, .top, .top, und], h14) ∧ pj ps17 = q16 ∧ Hold B h14 ([] ++ D2 (A := Lattice) x1 ps17)) := by
  refine kB1 (Rel := fun (st : (Sl Lattice) × Int) tm h11 => match st with | (w8, w13) => ∃ ps9 : PS Lattice, tm = [Sl.enc a_, und, kBv, x1, iv w13, Sl.enc a_, iv (((a_.getD []).length : Nat) : Int), x1, .top, .top, .top, .top, .top, .top, .top, .top, .top, .top, .top, .top, .top, .top, und] ∧ pj ps9 = w8 ∧ Hold B h11 ([] ++ D2 (A := Lattice) x1 ps9)) (fun st tm h11 R => ?_) R
  obtain ⟨w8, w13⟩ := st
  obtain ⟨ps9, rfl, hp10, O12⟩ := R
  rw [e_lb0_q57]
  unfold s0_q57
  dsimp only
  refine kA1 (v := iv (((a_.getD []).length : Nat) : Int)) (Tab.enc h11 a_).len ?_
  refine kA1 (v := bv (decide (w13 < (((a_.getD []).length : Nat) : Int)))) (kAh _ _) ?_
  refine kAa (fun c21 => ?_) (fun c21 => ?_)
  · refine kAo (Tab.enc h11 a_) (fun m23 a22 hi24 hm25 => ?_)
    refine kA1 (v := AV.agg [iv a22.nodes, Sl.enc a22.edges]) ((Tab.enc h11 a_).ld hm25 true 2 0) ?_
    refine kBp he_q56 (kAu _ a22 rfl) (fun c26 => ?_)
    refine kEj O12 (c26.edges : Sl Edg) (fun z1 => AV.agg [iv c26.nodes, z1]) (by intro b; simp only [kH2, kFi, kHh, matLc, matLn, mat_iv, mat_bv, mat_sv, mat_bt, kFj, mat_rS, List.append_nil, List.nil_append, List.length_nil, Nat.add_zero]) (by simp only [kGy, kFp, kHj, noF_iv, noF_bv, noF_sv, noF_bt, kFo, noF_rS, List.all_cons, List.all_nil, Bool.and_self]) (fun x28 h29 O30 => ?_)
    replace O30 : Hold B h29 ([(x28, obS (c26.edges : Sl Edg))] ++ D2 (A := Lattice) x1 ps9) := Hold.rot O30
    refine sim_getN (l := [(x28, obS (c26.edges : Sl Edg))]) (x := x1) (ps := ps9) (A := Lattice) O30 hp10 (fun m32 a31 x35 hi33 hm34 hg36 => ?_)
    have O39 := O30
    refine sim_setRowA (l := []) (x := x1) (ps := ps9) (a' := (⟨c26.nodes, c26.edges⟩ : Lattice)) (y' := x28) O39 hp10 hi33 hm34 (by first | rfl | simp [Inn.row]) rfl (fun ps40 h37 hp41 O38 => ?_)
    refine kA1 (v := iv (wr (w13 + 1))) (kAk _ _) ?_
    exact kA5 ⟨rfl, _, rfl, hp41, O38⟩
  · exact kA5 ⟨nofun, _, _, _, rfl, hp10, O12⟩
theorem ts_q57 (env : Nat → Contract) (he_q56 : env n_q56 = .pure (C1 (fun c : Lattice => AV.agg [iv c.nodes, rS c.edges]) t_q56)) (a_ : Sl Lattice) : Sim (kAl Try.prog env n_q57 [Sl.enc a_] []) (t_q57 a_) fun c p => release p.2 depth p.1 = some ((fun c : (Sl Lattice) => rD c) c) := by
  have O := Hold.nil []
  generalize hB : (⟨[], []⟩ : Base) = B at O
  clear hB
  rw [e_q57]
  unfold t_q57
  refine kA1 (v := iv (((a_.getD []).length : Nat) : Int)) (Tab.enc [] a_).len ?_
  refine sim_makeN (l := []) (A := Lattice) O (⟨0, (none : Sl Edg)⟩ : Lattice) rfl rfl (by decide) (fun l5 x1 ps6 h2 hp7 O3 => ?_)
  refine kB0 ((tl0_q57 env he_q56 a_ x1) ⟨_, rfl, hp7, O3⟩) (fun qq45 r hq => ?_)
  revert hq
  revert qq45
  intro q16 hq
  obtain ⟨q19, ps17, h14, rfl, hp18, O15⟩ := hq
  rw [e_lk0x0_q57]
  have O20 : Hold B h14 ([] ++ D2 (A := Lattice) x1 ps17) := O15.selD [] (by decide) rfl
  exact kA5 (kGg (by simp only [ids_tup, ids_aggD, ids_agg, ids_iv, ids_bv, ids_sv, ids_bt, ids_nilS, ids_enc, D2.ids8 (l := []) (x := x1) (ps := ps17) (A := Lattice) O20, List.map_append, List.map_nil, List.flatMap_cons, List.flatMap_nil, List.append_nil, List.nil_append]; simpa only [List.flatMap_cons, List.flatMap_nil, List.append_nil, List.nil_append] using O20.nd2) (by simp only [rel_tup, rel_aggD, rel_agg, rel_iv, rel_bv, rel_sv, rel_bt, rel_nilS, rel_enc, D2.rel8 (l := []) (x := x1) (ps := ps17) (A := Lattice) O20 hp18, omapc, omapn, kA6] <;> rfl))
theorem tt_q57 : kAi Try.prog n_q57 (C1 (fun c : (Sl Lattice) => rD c) t_q57) := kD1 (kB7 tt_q56 E0) kBb hb_q57 fun a_ => ts_q57 _ (by simp [kBw]) a_
def t_q54 (a_ : Entry) : Option Entry :=
  some a_
theorem ts_q54 (env : Nat → Contract)  (a_ : Entry) : Sim (kAl Try.prog env n_q54 [AV.agg [sv a_.word, iv a_.cost]] []) (t_q54 a_) fun c p => release p.2 depth p.1 = some ((fun c : Entry => enc c) c) := by
  have O := Hold.nil []
  generalize hB : (⟨[], []⟩ : Base) = B at O
  clear hB
  rw [e_q54]
  unfold t_q54
  refine kAv O (cs := [sv a_.word, iv a_.cost]) (by first | rfl | simp) (fun o1 h2 O3 => ?_)
  replace O3 : Hold B h2 [(AV.ptr o1 1 0 0, .pt 2 [sv a_.word, iv a_.cost])] := O3
  refine kAv O3 (cs := [sv (⟨#[]⟩ : ByteArray), iv 0]) (by first | rfl | simp) (fun o5 h6 O7 => ?_)
  replace O7 : Hold B h6 [(AV.ptr o1 1 0 0, .pt 2 [sv a_.word, iv a_.cost]), (AV.ptr o5 1 0 0, .pt 2 [sv (⟨#[]⟩ : ByteArray), iv 0])] := O7
  refine kAv O7 (cs := [sv (⟨#[]⟩ : ByteArray), iv 0]) (by first | rfl | simp) (fun o9 h10 O11 => ?_)
  replace O11 : Hold B h10 [(AV.ptr o1 1 0 0, .pt 2 [sv a_.word, iv a_.cost]), (AV.ptr o5 1 0 0, .pt 2 [sv (⟨#[]⟩ : ByteArray), iv 0]), (AV.ptr o9 1 0 0, .pt 2 [sv (⟨#[]⟩ : ByteArray), iv 0])] := O11
  refine kA1 (v := AV.ptr o1 1 0 0) rfl ?_
  refine kA1 (v := sv a_.word) (O11.ld 0 rfl false 1 0) ?_
  refine kA1 (v := AV.ptr o9 1 0 0) rfl ?_
  refine kBr O11 2 (cs' := [sv a_.word, iv 0]) rfl (by first | rfl | simp) (by simp) (by first | rfl | simp) (by first | rfl | simp [kBk]) (fun h13 O14 => ?_)
  replace O14 : Hold B h13 [(AV.ptr o1 1 0 0, .pt 2 [sv a_.word, iv a_.cost]), (AV.ptr o5 1 0 0, .pt 2 [sv (⟨#[]⟩ : ByteArray), iv 0]), (AV.ptr o9 1 0 0, .pt 2 [sv a_.word, iv 0])] := O14
  refine kA1 (v := AV.ptr o1 1 0 1) rfl ?_
  refine kA1 (v := iv a_.cost) (O14.ld 0 rfl false 1 1) ?_
  refine kA1 (v := AV.ptr o9 1 0 1) rfl ?_
  refine kBr O14 2 (cs' := [sv a_.word, iv a_.cost]) rfl (by first | rfl | simp) (by simp) (by first | rfl | simp) (by first | rfl | simp [kBk]) (fun h15 O16 => ?_)
  replace O16 : Hold B h15 [(AV.ptr o1 1 0 0, .pt 2 [sv a_.word, iv a_.cost]), (AV.ptr o5 1 0 0, .pt 2 [sv (⟨#[]⟩ : ByteArray), iv 0]), (AV.ptr o9 1 0 0, .pt 2 [sv a_.word, iv a_.cost])] := O16
  refine kA1 (v := AV.agg [sv a_.word, iv a_.cost]) (O16.ld 2 rfl true 2 0) ?_
  refine kBr O16 1 (cs' := [sv a_.word, iv a_.cost]) rfl (by first | rfl | simp) (by simp) (by first | rfl | simp) (by first | rfl | simp [kBk]) (fun h17 O18 => ?_)
  replace O18 : Hold B h17 [(AV.ptr o1 1 0 0, .pt 2 [sv a_.word, iv a_.cost]), (AV.ptr o5 1 0 0, .pt 2 [sv a_.word, iv a_.cost]), (AV.ptr o9 1 0 0, .pt 2 [sv a_.word, iv a_.cost])] := O18
  refine kHn (resL_c (v := AV.agg [sv a_.word, iv a_.cost]) (O18.ld 1 rfl true 2 0) (kI1 _)) ?_
  dsimp only [pack]
  exact kA5 (kA3 (by rfl) _)
theorem tt_q54 : kAi Try.prog n_q54 (C1 (fun c : Entry => enc c) t_q54) := kD1 E0 kBb hb_q54 fun a_ => ts_q54 _  a_
def s0_q55 (a_ : Sl Entry) : ((Sl Entry) × Int) → Option (Sum ((Sl Entry) × Int) (Sl Entry)) := fun (w6, w9) =>
  bif decide (w9 < (((a_.getD []).length : Nat) : Int)) then
    kA0 (kC1 (a_.getD []) w9) fun a15 =>
    kA0 (t_q54 a15) fun c19 =>
    kA0 (kC1 (w6.getD []) w9) fun a20 =>
    some (.inl ((kGk w6 w9 c19), wr (w9 + 1)))
  else
    some (.inr w6)
def t_q55 (a_ : Sl Entry) : Option (Sl Entry) :=
  kA0 (kH8 (⟨(⟨#[]⟩ : ByteArray), 0⟩ : Entry) (((a_.getD []).length : Nat) : Int)) fun l5 =>
  kA0 (kAw (s0_q55 a_) ((some l5), 0)) fun q12 =>
  some q12
theorem tl0_q55 (env : Nat → Contract) {B : Base} (he_q54 : env n_q54 = .pure (C1 (fun c : Entry => enc c) t_q54)) (a_ : Sl Entry) (x1 : AV)  {st : (Sl Entry) × Int} {tm : TM} {h : kA7} (R : (fun (st : (Sl Entry) × Int) tm h7 => match st with | (w6, w9) => tm = [Sl.enc a_, und, kBv, x1, iv w9, Sl.enc a_, iv (((a_.getD []).length : Nat) : Int), x1, .top, .top, .top, .top, .top, .top, .top, .top, .top, .top, .top, .top, .top, .top, und] ∧ Hold B h7 [(x1, obS (w6 : Sl Entry))]) st tm h) : Sim (kB3 hm0_q55 xm0_q55 (lb0_q55 env) tm h) (kAw (s0_q55 a_) st) (fun (q : Sl Entry) (r : Res) => match q with | q12 => ∃ (q13 : Int) (h10 : kA7), r = (.exit 0, [Sl.enc a_, und, kBv, x1, iv q13, Sl.enc a_, iv (((a_.getD []).length : Nat) : Int), x1, .top, .top, .top, .top, .top, .top, .top, .top, .top, .top, .top, .top, .top, .top, und], h10) ∧ Hold B h10 [(x1, obS (q12 : Sl Entry))]) := by
  refine kB1 (Rel := fun (st : (Sl Entry) × Int) tm h7 => match st with | (w6, w9) => tm = [Sl.enc a_, und, kBv, x1, iv w9, Sl.enc a_, iv (((a_.getD []).length : Nat) : Int), x1, .top, .top, .top, .top, .top, .top, .top, .top, .top, .top, .top, .top, .top, .top, und] ∧ Hold B h7 [(x1, obS (w6 : Sl Entry))]) (fun st tm h7 R => ?_) R
  obtain ⟨w6, w9⟩ := st
  obtain ⟨rfl, O8⟩ := R
  rw [e_lb0_q55]
  unfold s0_q55
  dsimp only
  refine kA1 (v := iv (((a_.getD []).length : Nat) : Int)) (Tab.enc h7 a_).len ?_
  refine kA1 (v := bv (decide (w9 < (((a_.getD []).length : Nat) : Int)))) (kAh _ _) ?_
  refine kAa (fun c14 => ?_) (fun c14 => ?_)
  · refine kAo (Tab.enc h7 a_) (fun m16 a15 hi17 hm18 => ?_)
    refine kA1 (v := AV.agg [sv a15.word, iv a15.cost]) ((Tab.enc h7 a_).ld hm18 true 2 0) ?_
    refine kBp he_q54 (kAu _ a15 rfl) (fun c19 => ?_)
    refine kAm (kAb (by rfl) _ _) ?_
    refine kAo (O8.tab (A := Entry) (s := w6) 0 rfl) (fun m21 a20 hi22 hm23 => ?_)
    refine kEl (A := Entry) O8 0 c19 rfl hi22 hm23 rfl (by simp) (by first | rfl | simp) (by first | rfl | simp [kBk]) (fun h24 O25 => ?_)
    replace O25 : Hold B h24 [(x1, obS ((kGk w6 w9 c19) : Sl Entry))] := O25
    refine kA1 (v := iv (wr (w9 + 1))) (kAk _ _) ?_
    exact kA5 ⟨rfl, rfl, O25⟩
  · exact kA5 ⟨nofun, _, _, rfl, O8⟩
theorem ts_q55 (env : Nat → Contract) (he_q54 : env n_q54 = .pure (C1 (fun c : Entry => enc c) t_q54)) (a_ : Sl Entry) : Sim (kAl Try.prog env n_q55 [Sl.enc a_] []) (t_q55 a_) fun c p => release p.2 depth p.1 = some ((fun c : (Sl Entry) => rS c) c) := by
  have O := Hold.nil []
  generalize hB : (⟨[], []⟩ : Base) = B at O
  clear hB
  rw [e_q55]
  unfold t_q55
  refine kA1 (v := iv (((a_.getD []).length : Nat) : Int)) (Tab.enc [] a_).len ?_
  refine kFl (A := Entry) O (⟨(⟨#[]⟩ : ByteArray), 0⟩ : Entry) rfl (by decide) (fun l5 x1 h2 O3 => ?_)
  replace O3 : Hold B h2 [(x1, obS ((some l5) : Sl Entry))] := O3
  refine kB0 ((tl0_q55 env he_q54 a_ x1) ⟨rfl, O3⟩) (fun qq29 r hq => ?_)
  revert hq
  revert qq29
  intro q12 hq
  obtain ⟨q13, h10, rfl, O11⟩ := hq
  rw [e_lk0x0_q55]
  exact kA5 (O11.rel (A := Entry) (s := q12) 0 rfl)
theorem tt_q55 : kAi Try.prog n_q55 (C1 (fun c : (Sl Entry) => rS c) t_q55) := kD1 (kB7 tt_q54 E0) kBb hb_q55 fun a_ => ts_q55 _ (by simp [kBw]) a_
def t_q58 (a_ : Lexicon) : Option Lexicon :=
  kA0 (t_q55 a_.entries) fun c13 =>
  some (⟨c13⟩ : Lexicon)
theorem ts_q58 (env : Nat → Contract) (he_q55 : env n_q55 = .pure (C1 (fun c : (Sl Entry) => rS c) t_q55)) (a_ : Lexicon) : Sim (kAl Try.prog env n_q58 [AV.agg [Sl.enc a_.entries]] []) (t_q58 a_) fun c p => release p.2 depth p.1 = some ((fun c : Lexicon => AV.agg [rS c.entries]) c) := by
  have O := Hold.nil []
  generalize hB : (⟨[], []⟩ : Base) = B at O
  clear hB
  rw [e_q58]
  unfold t_q58
  refine kAv O (cs := [Sl.enc a_.entries]) (by first | rfl | simp) (fun o1 h2 O3 => ?_)
  replace O3 : Hold B h2 [(AV.ptr o1 1 0 0, .pt 1 [Sl.enc a_.entries])] := O3
  refine kAv O3 (cs := [kBv]) (by first | rfl | simp) (fun o5 h6 O7 => ?_)
  replace O7 : Hold B h6 [(AV.ptr o1 1 0 0, .pt 1 [Sl.enc a_.entries]), (AV.ptr o5 1 0 0, .pt 1 [kBv])] := O7
  refine kAv O7 (cs := [kBv]) (by first | rfl | simp) (fun o9 h10 O11 => ?_)
  replace O11 : Hold B h10 [(AV.ptr o1 1 0 0, .pt 1 [Sl.enc a_.entries]), (AV.ptr o5 1 0 0, .pt 1 [kBv]), (AV.ptr o9 1 0 0, .pt 1 [kBv])] := O11
  refine kA1 (v := AV.ptr o1 1 0 0) rfl ?_
  refine kA1 (v := Sl.enc a_.entries) (O11.ld 0 rfl false 1 0) ?_
  refine kBp he_q55 (kB9 _ _) (fun c13 => ?_)
  refine kGj (A := Entry) O11 (fun x15 h16 O17 => ?_)
  replace O17 : Hold B h16 [(AV.ptr o1 1 0 0, .pt 1 [Sl.enc a_.entries]), (AV.ptr o5 1 0 0, .pt 1 [kBv]), (AV.ptr o9 1 0 0, .pt 1 [kBv]), (x15, obS (c13 : Sl Entry))] := O17
  refine kA1 (v := AV.ptr o9 1 0 0) rfl ?_
  refine kBr O17 2 (cs' := [x15]) rfl (by first | rfl | simp [(O17.one (A := Entry) (s := c13) 3 rfl).1, (O17.one (A := Entry) (s := c13) 3 rfl).2]) (by simp) (by first | rfl | simp [(O17.one (A := Entry) (s := c13) 3 rfl).1, (O17.one (A := Entry) (s := c13) 3 rfl).2]) (by first | rfl | simp [kBk, (O17.one (A := Entry) (s := c13) 3 rfl).1, (O17.one (A := Entry) (s := c13) 3 rfl).2]) (fun h18 O19 => ?_)
  replace O19 : Hold B h18 [(AV.ptr o1 1 0 0, .pt 1 [Sl.enc a_.entries]), (AV.ptr o5 1 0 0, .pt 1 [kBv]), (AV.ptr o9 1 0 0, .pt 1 [x15]), (x15, obS (c13 : Sl Entry))] := O19
  refine kA1 (v := AV.agg [x15]) (O19.ld 2 rfl true 1 0) ?_
  refine kBr O19 1 (cs' := [x15]) rfl (by first | rfl | simp [(O19.one (A := Entry) (s := c13) 3 rfl).1, (O19.one (A := Entry) (s := c13) 3 rfl).2]) (by simp) (by first | rfl | simp [(O19.one (A := Entry) (s := c13) 3 rfl).1, (O19.one (A := Entry) (s := c13) 3 rfl).2]) (by first | rfl | simp [kBk, (O19.one (A := Entry) (s := c13) 3 rfl).1, (O19.one (A := Entry) (s := c13) 3 rfl).2]) (fun h20 O21 => ?_)
  replace O21 : Hold B h20 [(AV.ptr o1 1 0 0, .pt 1 [Sl.enc a_.entries]), (AV.ptr o5 1 0 0, .pt 1 [x15]), (AV.ptr o9 1 0 0, .pt 1 [x15]), (x15, obS (c13 : Sl Entry))] := O21
  refine kHn (resL_c (v := AV.agg [x15]) (O21.ld 1 rfl true 1 0) (kI1 _)) ?_
  dsimp only [pack]
  have O22 : Hold B h20 [(x15, obS (c13 : Sl Entry))] := O21.sel [3] (by decide) rfl
  exact kA5 (kGg (by simp only [ids_tup, ids_aggD, ids_agg, ids_iv, ids_bv, ids_sv, ids_bt, ids_nilS, ids_enc, O22.idsD (A := Entry) (s := c13) 0 rfl, List.map_append, List.map_nil, List.flatMap_cons, List.flatMap_nil, List.append_nil, List.nil_append]; simpa only [List.flatMap_cons, List.flatMap_nil, List.append_nil, List.nil_append] using O22.nd2) (by simp only [rel_tup, rel_aggD, rel_agg, rel_iv, rel_bv, rel_sv, rel_bt, rel_nilS, rel_enc, O22.relD (A := Entry) (s := c13) 0 rfl, omapc, omapn, kA6] <;> rfl))
theorem tt_q58 : kAi Try.prog n_q58 (C1 (fun c : Lexicon => AV.agg [rS c.entries]) t_q58) := kD1 (kB7 tt_q55 E0) kBb hb_q58 fun a_ => ts_q58 _ (by simp [kBw]) a_
def s0_q60 (a_ : Sl ByteArray) : ((Sl ByteArray) × Int) → Option (Sum ((Sl ByteArray) × Int) (Sl ByteArray)) := fun (w6, w9) =>
  bif decide (w9 < (((a_.getD []).length : Nat) : Int)) then
    kA0 (kC1 (a_.getD []) w9) fun a15 =>
    kA0 (kC1 (w6.getD []) w9) fun a19 =>
    some (.inl ((kGk w6 w9 a15), wr (w9 + 1)))
  else
    some (.inr w6)
def t_q60 (a_ : Sl ByteArray) : Option (Sl ByteArray) :=
  kA0 (kH8 (⟨#[]⟩ : ByteArray) (((a_.getD []).length : Nat) : Int)) fun l5 =>
  kA0 (kAw (s0_q60 a_) ((some l5), 0)) fun q12 =>
  some q12
theorem tl0_q60 (env : Nat → Contract) {B : Base}  (a_ : Sl ByteArray) (x1 : AV)  {st : (Sl ByteArray) × Int} {tm : TM} {h : kA7} (R : (fun (st : (Sl ByteArray) × Int) tm h7 => match st with | (w6, w9) => tm = [Sl.enc a_, und, kBv, x1, iv w9, Sl.enc a_, iv (((a_.getD []).length : Nat) : Int), x1, .top, .top, .top, .top, .top, .top, .top, .top, .top, .top, .top, .top, .top, und] ∧ Hold B h7 [(x1, obS (w6 : Sl ByteArray))]) st tm h) : Sim (kB3 hm0_q60 xm0_q60 (lb0_q60 env) tm h) (kAw (s0_q60 a_) st) (fun (q : Sl ByteArray) (r : Res) => match q with | q12 => ∃ (q13 : Int) (h10 : kA7), r = (.exit 0, [Sl.enc a_, und, kBv, x1, iv q13, Sl.enc a_, iv (((a_.getD []).length : Nat) : Int), x1, .top, .top, .top, .top, .top, .top, .top, .top, .top, .top, .top, .top, .top, und], h10) ∧ Hold B h10 [(x1, obS (q12 : Sl ByteArray))]) := by
  refine kB1 (Rel := fun (st : (Sl ByteArray) × Int) tm h7 => match st with | (w6, w9) => tm = [Sl.enc a_, und, kBv, x1, iv w9, Sl.enc a_, iv (((a_.getD []).length : Nat) : Int), x1, .top, .top, .top, .top, .top, .top, .top, .top, .top, .top, .top, .top, .top, und] ∧ Hold B h7 [(x1, obS (w6 : Sl ByteArray))]) (fun st tm h7 R => ?_) R
  obtain ⟨w6, w9⟩ := st
  obtain ⟨rfl, O8⟩ := R
  rw [e_lb0_q60]
  unfold s0_q60
  dsimp only
  refine kA1 (v := iv (((a_.getD []).length : Nat) : Int)) (Tab.enc h7 a_).len ?_
  refine kA1 (v := bv (decide (w9 < (((a_.getD []).length : Nat) : Int)))) (kAh _ _) ?_
  refine kAa (fun c14 => ?_) (fun c14 => ?_)
  · refine kAo (Tab.enc h7 a_) (fun m16 a15 hi17 hm18 => ?_)
    refine kA1 (v := sv a15) ((Tab.enc h7 a_).ld hm18 false 1 0) ?_
    refine kAo (O8.tab (A := ByteArray) (s := w6) 0 rfl) (fun m20 a19 hi21 hm22 => ?_)
    refine kEl (A := ByteArray) O8 0 a15 rfl hi21 hm22 rfl (by simp) (by first | rfl | simp) (by first | rfl | simp [kBk]) (fun h23 O24 => ?_)
    replace O24 : Hold B h23 [(x1, obS ((kGk w6 w9 a15) : Sl ByteArray))] := O24
    refine kA1 (v := iv (wr (w9 + 1))) (kAk _ _) ?_
    exact kA5 ⟨rfl, rfl, O24⟩
  · exact kA5 ⟨nofun, _, _, rfl, O8⟩
theorem ts_q60 (env : Nat → Contract)  (a_ : Sl ByteArray) : Sim (kAl Try.prog env n_q60 [Sl.enc a_] []) (t_q60 a_) fun c p => release p.2 depth p.1 = some ((fun c : (Sl ByteArray) => rS c) c) := by
  have O := Hold.nil []
  generalize hB : (⟨[], []⟩ : Base) = B at O
  clear hB
  rw [e_q60]
  unfold t_q60
  refine kA1 (v := iv (((a_.getD []).length : Nat) : Int)) (Tab.enc [] a_).len ?_
  refine kFl (A := ByteArray) O (⟨#[]⟩ : ByteArray) rfl (by decide) (fun l5 x1 h2 O3 => ?_)
  replace O3 : Hold B h2 [(x1, obS ((some l5) : Sl ByteArray))] := O3
  refine kB0 ((tl0_q60 env a_ x1) ⟨rfl, O3⟩) (fun qq28 r hq => ?_)
  revert hq
  revert qq28
  intro q12 hq
  obtain ⟨q13, h10, rfl, O11⟩ := hq
  rw [e_lk0x0_q60]
  exact kA5 (O11.rel (A := ByteArray) (s := q12) 0 rfl)
theorem tt_q60 : kAi Try.prog n_q60 (C1 (fun c : (Sl ByteArray) => rS c) t_q60) := kD1 E0 kBb hb_q60 fun a_ => ts_q60 _  a_
def s0_q77 (x_ : Lexicon) : Int → Option (Sum Int (Sum Unit Bool)) := fun w3 =>
  bif decide (w3 < (((x_.entries.getD []).length : Nat) : Int)) then
    kA0 (kC1 (x_.entries.getD []) w3) fun a15 =>
    kA0 (t_q66 a15.word) fun c19 =>
    kA0 (bif !c19 then some false else (kA0 (some (kB5 a15.cost 0 1000000)) fun c21 => some (!c21))) fun c22 =>
    kA0 (bif (bif !c19 then true else c22) then some false else (some (decide (0 < w3)))) fun c29 =>
    kA0 (bif (!(bif !c19 then true else c22) && c29) then (kA0 (kC1 (x_.entries.getD []) (wr (w3 - 1))) fun a33 => some (ltS a15.word a33.word || decide (a15.word = a33.word))) else some false) fun c37 =>
    kA0 (bif (bif !c19 then true else c22) then some false else (some (bif c29 then c37 else false))) fun c52 =>
    bif (bif (bif !c19 then true else c22) then true else c52) then
      some (.inr (.inr false))
    else
      some (.inl (wr (w3 + 1)))
  else
    some (.inr (.inl ()))
def t_q77 (x_ : Lexicon) : Option Bool :=
  kA0 (kAw (s0_q77 x_) 0) fun qq58 => match qq58 with
  | (.inl _) =>
      some (decide ((((x_.entries.getD []).length : Nat) : Int) ≤ 60))
  | (.inr q11) =>
      some q11
def tp_q77 (x_p : Pt Lexicon) : Option Bool := kA0 x_p.get fun x_ => t_q77 x_
theorem tl0_q77 (env : Nat → Contract) {B : Base} (he_q66 : env n_q66 = .pure (C1 (fun c : Bool => enc c) t_q66)) (he_q68 : env kFk = .pure (T3 kB5)) (x_ : Lexicon) (x_p : Pt Lexicon) (hp_x_ : x_p.get = some x_)  {st : Int} {tm : TM} {h : kA7} (R : (fun (st : Int) tm h1 => match st with | w3 => tm = ((AV.fptr (Row.w Lexicon) (x_p.tab.map Row.cells) x_p.i 0) :: und :: .top :: (iv w3) :: .top :: .top :: .top :: .top :: .top :: .top :: .top :: .top :: .top :: .top :: .top :: .top :: .top :: .top :: .top :: .top :: .top :: .top :: .top :: .top :: .top :: .top :: .top :: .top :: .top :: .top :: .top :: .top :: .top :: .top :: .top :: .top :: .top :: .top :: .top :: .top :: .top :: .top :: .top :: .top :: .top :: .top :: .top :: .top :: .top :: .top :: .top :: .top :: .top :: .top :: und :: und :: und :: und :: und :: und :: []) ∧ Hold B h1 []) st tm h) : Sim (kB3 hm0_q77 xm0_q77 (lb0_q77 env) tm h) (kAw (s0_q77 x_) st) (fun (q : Sum Unit Bool) (r : Res) => match q with | .inl _ => ∃ (q7 : Int) (z6 : AV) (z8 : AV) (h4 : kA7), r = (.exit 0, ((AV.fptr (Row.w Lexicon) (x_p.tab.map Row.cells) x_p.i 0) :: und :: z6 :: (iv q7) :: z8 :: .top :: .top :: .top :: .top :: .top :: .top :: .top :: .top :: .top :: .top :: .top :: .top :: .top :: .top :: .top :: .top :: .top :: .top :: .top :: .top :: .top :: .top :: .top :: .top :: .top :: .top :: .top :: .top :: .top :: .top :: .top :: .top :: .top :: .top :: .top :: .top :: .top :: .top :: .top :: .top :: .top :: .top :: .top :: .top :: .top :: .top :: .top :: .top :: .top :: und :: und :: und :: und :: und :: und :: []), h4) ∧ Hold B h4 [] | .inr q11 => ∃ (q12 : Int) (z13 : AV) (h9 : kA7), r = (.ret, ((AV.fptr (Row.w Lexicon) (x_p.tab.map Row.cells) x_p.i 0) :: und :: (bv q11) :: (iv q12) :: z13 :: .top :: .top :: .top :: .top :: .top :: .top :: .top :: .top :: .top :: .top :: .top :: .top :: .top :: .top :: .top :: .top :: .top :: .top :: .top :: .top :: .top :: .top :: .top :: .top :: .top :: .top :: .top :: .top :: .top :: .top :: .top :: .top :: .top :: .top :: .top :: .top :: .top :: .top :: .top :: .top :: .top :: .top :: .top :: .top :: .top :: .top :: .top :: .top :: .top :: und :: und :: und :: und :: und :: und :: []), h9) ∧ Hold B h9 []) := by
  refine kB1 (Rel := fun (st : Int) tm h1 => match st with | w3 => tm = ((AV.fptr (Row.w Lexicon) (x_p.tab.map Row.cells) x_p.i 0) :: und :: .top :: (iv w3) :: .top :: .top :: .top :: .top :: .top :: .top :: .top :: .top :: .top :: .top :: .top :: .top :: .top :: .top :: .top :: .top :: .top :: .top :: .top :: .top :: .top :: .top :: .top :: .top :: .top :: .top :: .top :: .top :: .top :: .top :: .top :: .top :: .top :: .top :: .top :: .top :: .top :: .top :: .top :: .top :: .top :: .top :: .top :: .top :: .top :: .top :: .top :: .top :: .top :: .top :: und :: und :: und :: und :: und :: und :: []) ∧ Hold B h1 []) (fun w3 tm h1 R => ?_) R
  obtain ⟨rfl, O2⟩ := R
  rw [e_lb0_q77]
  unfold s0_q77
  dsimp only
  refine kA1 (v := AV.fptr (Row.w Lexicon) (x_p.tab.map Row.cells) x_p.i 0) rfl ?_
  refine kA1 (v := AV.fptr (Row.w Lexicon) (x_p.tab.map Row.cells) x_p.i 0) rfl ?_
  refine kA1 (v := Sl.enc x_.entries) (kBx hp_x_ false 1 0) ?_
  refine kA1 (v := iv (((x_.entries.getD []).length : Nat) : Int)) (Tab.enc h1 x_.entries).len ?_
  refine kA1 (v := bv (decide (w3 < (((x_.entries.getD []).length : Nat) : Int)))) (kAh _ _) ?_
  refine kAa (fun c14 => ?_) (fun c14 => ?_)
  · refine kA1 (v := AV.fptr (Row.w Lexicon) (x_p.tab.map Row.cells) x_p.i 0) rfl ?_
    refine kA1 (v := AV.fptr (Row.w Lexicon) (x_p.tab.map Row.cells) x_p.i 0) rfl ?_
    refine kA1 (v := Sl.enc x_.entries) (kBx hp_x_ false 1 0) ?_
    refine kAo (Tab.enc h1 x_.entries) (fun m16 a15 hi17 hm18 => ?_)
    refine kA1 (v := elp (Sl.enc x_.entries) m16 0) (kI3 _ _ _) ?_
    refine kA1 (v := elp (Sl.enc x_.entries) m16 0) ((Tab.enc h1 x_.entries).fld _ _ _) ?_
    refine kA1 (v := sv a15.word) ((Tab.enc h1 x_.entries).ld hm18 false 1 0) ?_
    refine kCo he_q66 (kBi _ _) (fun c19 => ?_)
    refine kAm (kAb (by rfl) _ _) ?_
    refine kA1 (v := bv (!c19)) (kBq _) ?_
    refine sim_g6F (e := bv) (fun hb20 => ?_) (fun y23 y24 y25 y26 y27 c22 => ?_)
    · refine kAe ?_
      refine kAp ?_
      refine kA1 (v := elp (Sl.enc x_.entries) m16 0) (kI3 _ _ _) ?_
      refine kAe ?_
      refine kAp ?_
      refine kA1 (v := elp (Sl.enc x_.entries) m16 1) ((Tab.enc h1 x_.entries).fld _ _ _) ?_
      refine kAe ?_
      refine kAp ?_
      refine kA1 (v := iv a15.cost) ((Tab.enc h1 x_.entries).ld hm18 false 1 1) ?_
      refine kAe ?_
      refine kI0 ?_
      refine sim_callVQ3 (t := kB5) he_q68 (kAr _ _) (kAr _ _) (kAr _ _) (fun c21 => ?_)
      refine kAe ?_
      refine kA1 (v := bv (!c21)) (kBq _) ?_
      exact kA5 rfl
    · refine kA1 (v := bv (bif !c19 then true else c22)) (kCh _ _ _) ?_
      refine sim_g3F (e := bv) (fun hb28 => ?_) (fun y30 y31 c29 => ?_)
      · refine kAe ?_
        refine kAp ?_
        refine kA1 (v := bv (decide (0 < w3))) (kE0 _ _) ?_
        refine kAe ?_
        exact kA5 rfl
      · simp only [gv_FT]
        refine sim_g14T (e := bv) (fun hb32 => ?_) (fun y38 y39 y40 y41 y42 y43 y44 y45 y46 y47 y48 y49 y50 c37 => ?_)
        · refine kAe ?_
          refine kAp ?_
          refine kA1 (v := elp (Sl.enc x_.entries) m16 0) (kI3 _ _ _) ?_
          refine kAe ?_
          refine kAp ?_
          refine kA1 (v := elp (Sl.enc x_.entries) m16 0) ((Tab.enc h1 x_.entries).fld _ _ _) ?_
          refine kAe ?_
          refine kAp ?_
          refine kA1 (v := sv a15.word) ((Tab.enc h1 x_.entries).ld hm18 false 1 0) ?_
          refine kAe ?_
          refine kAe ?_
          refine kAp ?_
          refine kA1 (v := AV.fptr (Row.w Lexicon) (x_p.tab.map Row.cells) x_p.i 0) rfl ?_
          refine kAe ?_
          refine kAp ?_
          refine kA1 (v := AV.fptr (Row.w Lexicon) (x_p.tab.map Row.cells) x_p.i 0) rfl ?_
          refine kAe ?_
          refine kAp ?_
          refine kA1 (v := Sl.enc x_.entries) (kBx hp_x_ false 1 0) ?_
          refine kAe ?_
          refine kAe ?_
          refine kAp ?_
          refine kA1 (v := iv (wr (w3 - 1))) (kC4 _ _) ?_
          refine kAe ?_
          refine kAp ?_
          refine kAo (Tab.enc h1 x_.entries) (fun m34 a33 hi35 hm36 => ?_)
          refine kAe ?_
          refine kAp ?_
          refine kA1 (v := elp (Sl.enc x_.entries) m34 0) ((Tab.enc h1 x_.entries).fld _ _ _) ?_
          refine kAe ?_
          refine kAp ?_
          refine kA1 (v := sv a33.word) ((Tab.enc h1 x_.entries).ld hm36 false 1 0) ?_
          refine kAe ?_
          refine kA1 (v := bv (ltS a15.word a33.word || decide (a15.word = a33.word))) (str_leq _ _) ?_
          exact kA5 rfl
        · refine kBt (e := bv) (fun hb51 => ?_) (fun c52 => ?_)
          · simp only [hb51, cond_true, cond_false, Bool.not_true, Bool.not_false, Bool.true_and, Bool.and_true, Bool.false_and, Bool.not_not]
            refine kA1 (v := bv (bif c29 then c37 else false)) (kCn _ _ _) ?_
            exact kA5 rfl
          · refine kA1 (v := bv (bif (bif !c19 then true else c22) then true else c52)) (kCh _ _ _) ?_
            refine kAa (fun c53 => ?_) (fun c53 => ?_)
            · exact kA5 ⟨nofun, _, _, _, rfl, O2⟩
            · refine kA1 (v := iv (wr (w3 + 1))) (kAk _ _) ?_
              exact kA5 ⟨rfl, rfl, O2⟩
  · exact kA5 ⟨nofun, _, _, _, _, rfl, O2⟩
theorem ts_q77 (env : Nat → Contract) (he_q66 : env n_q66 = .pure (C1 (fun c : Bool => enc c) t_q66)) (he_q68 : env kFk = .pure (T3 kB5)) (x_ : Lexicon) {x_p : Pt Lexicon} (hp_x_ : x_p.get = some x_) : Sim (kAl Try.prog env n_q77 [AV.fptr (Row.w Lexicon) (x_p.tab.map Row.cells) x_p.i 0] []) (t_q77 x_) fun c p => release p.2 depth p.1 = some ((fun c : Bool => enc c) c) := by
  have O := Hold.nil []
  generalize hB : (⟨[], []⟩ : Base) = B at O
  clear hB
  rw [e_q77]
  unfold t_q77
  refine kB0 ((tl0_q77 env he_q66 he_q68 x_ x_p hp_x_) ⟨rfl, O⟩) (fun qq58 r hq => ?_)
  rcases qq58 with _ | q11
  · obtain ⟨q7, z6, z8, h4, rfl, O5⟩ := hq
    rw [e_lk0x0_q77]
    refine kA1 (v := AV.fptr (Row.w Lexicon) (x_p.tab.map Row.cells) x_p.i 0) rfl ?_
    refine kA1 (v := AV.fptr (Row.w Lexicon) (x_p.tab.map Row.cells) x_p.i 0) rfl ?_
    refine kA1 (v := Sl.enc x_.entries) (kBx hp_x_ false 1 0) ?_
    refine kA1 (v := iv (((x_.entries.getD []).length : Nat) : Int)) (Tab.enc h4 x_.entries).len ?_
    refine kA1 (v := bv (decide ((((x_.entries.getD []).length : Nat) : Int) ≤ 60))) (kFf _ _) ?_
    exact kA5 (kA3 (by rfl) _)
  · obtain ⟨q12, z13, h9, rfl, O10⟩ := hq
    rw [e_lk0r_q77]
    exact kA5 (kA3 (by rfl) _)
theorem tt_q77 : kAi Try.prog n_q77 (C1 (fun c : Bool => enc c) tp_q77) := kD1 (kB7 tt_q66 (kB7 ok_q68 E0)) kBb hb_q77 fun x_p => kCm fun x_ hp_x_ => ts_q77 _ (by simp [kBw]) (by simp [kBw]) x_ hp_x_
def t_q71 (l_ : Lattice) (e_ : Edg) : Option Bool :=
  kA0 (bif decide (0 ≤ e_.frm) then (some (decide (e_.frm < e_.upto))) else some false) fun c2 =>
  kA0 (bif (bif decide (0 ≤ e_.frm) then c2 else false) then (some (decide (e_.upto ≤ (wr (l_.nodes - 1))))) else some false) fun c12 =>
  kA0 (bif (bif (bif decide (0 ≤ e_.frm) then c2 else false) then c12 else false) then (kA0 (some (kB5 e_.cost 0 1000000)) fun c23 => some c23) else some false) fun c24 =>
  some (bif (bif (bif decide (0 ≤ e_.frm) then c2 else false) then c12 else false) then c24 else false)
def tp_q71 (l_p : Pt Lattice) (e_p : Pt Edg) : Option Bool := kA0 l_p.get fun l_ => kA0 e_p.get fun e_ => t_q71 l_ e_
theorem ts_q71 (env : Nat → Contract) (he_q68 : env kFk = .pure (T3 kB5)) (l_ : Lattice) (e_ : Edg) {l_p : Pt Lattice} (hp_l_ : l_p.get = some l_) {e_p : Pt Edg} (hp_e_ : e_p.get = some e_) : Sim (kAl Try.prog env n_q71 [AV.fptr (Row.w Lattice) (l_p.tab.map Row.cells) l_p.i 0, AV.fptr (Row.w Edg) (e_p.tab.map Row.cells) e_p.i 0] []) (t_q71 l_ e_) fun c p => release p.2 depth p.1 = some ((fun c : Bool => enc c) c) := by
  have O := Hold.nil []
  generalize hB : (⟨[], []⟩ : Base) = B at O
  clear hB
  rw [e_q71]
  unfold t_q71
  refine kA1 (v := AV.fptr (Row.w Edg) (e_p.tab.map Row.cells) e_p.i 0) rfl ?_
  refine kA1 (v := AV.fptr (Row.w Edg) (e_p.tab.map Row.cells) e_p.i 0) rfl ?_
  refine kA1 (v := iv e_.frm) (kBx hp_e_ false 1 0) ?_
  refine kA1 (v := bv (decide (0 ≤ e_.frm))) (kFn _ _) ?_
  refine sim_g9T (e := bv) (fun hb1 => ?_) (fun y3 y4 y5 y6 y7 y8 y9 y10 c2 => ?_)
  · refine kAe ?_
    refine kAp ?_
    refine kA1 (v := AV.fptr (Row.w Edg) (e_p.tab.map Row.cells) e_p.i 0) rfl ?_
    refine kAe ?_
    refine kAp ?_
    refine kA1 (v := AV.fptr (Row.w Edg) (e_p.tab.map Row.cells) e_p.i 0) rfl ?_
    refine kAe ?_
    refine kAp ?_
    refine kA1 (v := iv e_.frm) (kBx hp_e_ false 1 0) ?_
    refine kAe ?_
    refine kAe ?_
    refine kAp ?_
    refine kA1 (v := AV.fptr (Row.w Edg) (e_p.tab.map Row.cells) e_p.i 0) rfl ?_
    refine kAe ?_
    refine kAp ?_
    refine kA1 (v := AV.fptr (Row.w Edg) (e_p.tab.map Row.cells) e_p.i 1) rfl ?_
    refine kAe ?_
    refine kAp ?_
    refine kA1 (v := iv e_.upto) (kBx hp_e_ false 1 1) ?_
    refine kAe ?_
    refine kA1 (v := bv (decide (e_.frm < e_.upto))) (kAh _ _) ?_
    exact kA5 rfl
  · refine kA1 (v := bv (bif decide (0 ≤ e_.frm) then c2 else false)) (kCn _ _ _) ?_
    refine sim_g10T (e := bv) (fun hb11 => ?_) (fun y13 y14 y15 y16 y17 y18 y19 y20 y21 c12 => ?_)
    · refine kAe ?_
      refine kAp ?_
      refine kA1 (v := AV.fptr (Row.w Edg) (e_p.tab.map Row.cells) e_p.i 0) rfl ?_
      refine kAe ?_
      refine kAp ?_
      refine kA1 (v := AV.fptr (Row.w Edg) (e_p.tab.map Row.cells) e_p.i 1) rfl ?_
      refine kAe ?_
      refine kAp ?_
      refine kA1 (v := iv e_.upto) (kBx hp_e_ false 1 1) ?_
      refine kAe ?_
      refine kAe ?_
      refine kAp ?_
      refine kA1 (v := AV.fptr (Row.w Lattice) (l_p.tab.map Row.cells) l_p.i 0) rfl ?_
      refine kAe ?_
      refine kAp ?_
      refine kA1 (v := AV.fptr (Row.w Lattice) (l_p.tab.map Row.cells) l_p.i 0) rfl ?_
      refine kAe ?_
      refine kAp ?_
      refine kA1 (v := iv l_.nodes) (kBx hp_l_ false 1 0) ?_
      refine kAe ?_
      refine kAp ?_
      refine kA1 (v := iv (wr (l_.nodes - 1))) (kC4 _ _) ?_
      refine kAe ?_
      refine kA1 (v := bv (decide (e_.upto ≤ (wr (l_.nodes - 1))))) (kFf _ _) ?_
      exact kA5 rfl
    · refine kA1 (v := bv (bif (bif decide (0 ≤ e_.frm) then c2 else false) then c12 else false)) (kCn _ _ _) ?_
      refine sim_g5T (e := bv) (fun hb22 => ?_) (fun y25 y26 y27 y28 c24 => ?_)
      · refine kAe ?_
        refine kAp ?_
        refine kA1 (v := AV.fptr (Row.w Edg) (e_p.tab.map Row.cells) e_p.i 0) rfl ?_
        refine kAe ?_
        refine kAp ?_
        refine kA1 (v := AV.fptr (Row.w Edg) (e_p.tab.map Row.cells) e_p.i 3) rfl ?_
        refine kAe ?_
        refine kAp ?_
        refine kA1 (v := iv e_.cost) (kBx hp_e_ false 1 3) ?_
        refine kAe ?_
        refine sim_callVQ3 (t := kB5) he_q68 (kAr _ _) (kAr _ _) (kAr _ _) (fun c23 => ?_)
        exact kA5 rfl
      · refine kA1 (v := bv (bif (bif (bif decide (0 ≤ e_.frm) then c2 else false) then c12 else false) then c24 else false)) (kCn _ _ _) ?_
        exact kA5 (kA3 (by rfl) _)
theorem tt_q71 : kAi Try.prog n_q71 (C2 (fun c : Bool => enc c) tp_q71) := kC2 (kB7 ok_q68 E0) kBb hb_q71 fun l_p e_p => kCm fun l_ hp_l_ => kCm fun e_ hp_e_ => ts_q71 _ (by simp [kBw]) l_ e_ hp_l_ hp_e_
def t_q74 (a_ : Int) (b_ : Int) : Option Int :=
  bif decide (a_ < b_) then
    some (-1)
  else
    bif decide (b_ < a_) then
      some 1
    else
      some 0
theorem ts_q74 (env : Nat → Contract)  (a_ : Int) (b_ : Int) : Sim (kAl Try.prog env n_q74 [iv a_, iv b_] []) (t_q74 a_ b_) fun c p => release p.2 depth p.1 = some ((fun c : Int => enc c) c) := by
  have O := Hold.nil []
  generalize hB : (⟨[], []⟩ : Base) = B at O
  clear hB
  rw [e_q74]
  unfold t_q74
  refine kA1 (v := bv (decide (a_ < b_))) (kAh _ _) ?_
  refine kAa (fun c1 => ?_) (fun c1 => ?_)
  · exact kA5 (kA3 (by rfl) _)
  · refine kA1 (v := bv (decide (b_ < a_))) (kE0 _ _) ?_
    refine kAa (fun c2 => ?_) (fun c2 => ?_)
    · exact kA5 (kA3 (by rfl) _)
    · exact kA5 (kA3 (by rfl) _)
theorem tt_q74 : kAi Try.prog n_q74 (C2 (fun c : Int => enc c) t_q74) := kC2 E0 kBb hb_q74 fun a_ b_ => ts_q74 _  a_ b_
def t_q73 (a_ : Edg) (b_ : Edg) : Option Int :=
  bif !decide (a_.frm = b_.frm) then
    kA0 (t_q74 a_.frm b_.frm) fun c2 =>
    some c2
  else
    bif !decide (a_.upto = b_.upto) then
      kA0 (t_q74 a_.upto b_.upto) fun c4 =>
      some c4
    else
      bif ltS a_.label b_.label then
        some (-1)
      else
        bif !(ltS a_.label b_.label || decide (a_.label = b_.label)) then
          some 1
        else
          some 0
def tp_q73 (a_p : Pt Edg) (b_p : Pt Edg) : Option Int := kA0 a_p.get fun a_ => kA0 b_p.get fun b_ => t_q73 a_ b_
theorem ts_q73 (env : Nat → Contract) (he_q74 : env n_q74 = .pure (C2 (fun c : Int => enc c) t_q74)) (a_ : Edg) (b_ : Edg) {a_p : Pt Edg} (hp_a_ : a_p.get = some a_) {b_p : Pt Edg} (hp_b_ : b_p.get = some b_) : Sim (kAl Try.prog env n_q73 [AV.fptr (Row.w Edg) (a_p.tab.map Row.cells) a_p.i 0, AV.fptr (Row.w Edg) (b_p.tab.map Row.cells) b_p.i 0] []) (t_q73 a_ b_) fun c p => release p.2 depth p.1 = some ((fun c : Int => enc c) c) := by
  have O := Hold.nil []
  generalize hB : (⟨[], []⟩ : Base) = B at O
  clear hB
  rw [e_q73]
  unfold t_q73
  refine kA1 (v := AV.fptr (Row.w Edg) (a_p.tab.map Row.cells) a_p.i 0) rfl ?_
  refine kA1 (v := AV.fptr (Row.w Edg) (a_p.tab.map Row.cells) a_p.i 0) rfl ?_
  refine kA1 (v := iv a_.frm) (kBx hp_a_ false 1 0) ?_
  refine kA1 (v := AV.fptr (Row.w Edg) (b_p.tab.map Row.cells) b_p.i 0) rfl ?_
  refine kA1 (v := AV.fptr (Row.w Edg) (b_p.tab.map Row.cells) b_p.i 0) rfl ?_
  refine kA1 (v := iv b_.frm) (kBx hp_b_ false 1 0) ?_
  refine kA1 (v := bv (!decide (a_.frm = b_.frm))) (kCi _ _) ?_
  refine kAa (fun c1 => ?_) (fun c1 => ?_)
  · refine kA1 (v := AV.fptr (Row.w Edg) (a_p.tab.map Row.cells) a_p.i 0) rfl ?_
    refine kA1 (v := AV.fptr (Row.w Edg) (a_p.tab.map Row.cells) a_p.i 0) rfl ?_
    refine kA1 (v := iv a_.frm) (kBx hp_a_ false 1 0) ?_
    refine kA1 (v := AV.fptr (Row.w Edg) (b_p.tab.map Row.cells) b_p.i 0) rfl ?_
    refine kA1 (v := AV.fptr (Row.w Edg) (b_p.tab.map Row.cells) b_p.i 0) rfl ?_
    refine kA1 (v := iv b_.frm) (kBx hp_b_ false 1 0) ?_
    refine kC3 he_q74 (kAr _ _) (kAr _ _) (fun c2 => ?_)
    refine kAm (kAb (by rfl) _ _) ?_
    exact kA5 (kA3 (by rfl) _)
  · refine kA1 (v := AV.fptr (Row.w Edg) (a_p.tab.map Row.cells) a_p.i 0) rfl ?_
    refine kA1 (v := AV.fptr (Row.w Edg) (a_p.tab.map Row.cells) a_p.i 1) rfl ?_
    refine kA1 (v := iv a_.upto) (kBx hp_a_ false 1 1) ?_
    refine kA1 (v := AV.fptr (Row.w Edg) (b_p.tab.map Row.cells) b_p.i 0) rfl ?_
    refine kA1 (v := AV.fptr (Row.w Edg) (b_p.tab.map Row.cells) b_p.i 1) rfl ?_
    refine kA1 (v := iv b_.upto) (kBx hp_b_ false 1 1) ?_
    refine kA1 (v := bv (!decide (a_.upto = b_.upto))) (kCi _ _) ?_
    refine kAa (fun c3 => ?_) (fun c3 => ?_)
    · refine kA1 (v := AV.fptr (Row.w Edg) (a_p.tab.map Row.cells) a_p.i 0) rfl ?_
      refine kA1 (v := AV.fptr (Row.w Edg) (a_p.tab.map Row.cells) a_p.i 1) rfl ?_
      refine kA1 (v := iv a_.upto) (kBx hp_a_ false 1 1) ?_
      refine kA1 (v := AV.fptr (Row.w Edg) (b_p.tab.map Row.cells) b_p.i 0) rfl ?_
      refine kA1 (v := AV.fptr (Row.w Edg) (b_p.tab.map Row.cells) b_p.i 1) rfl ?_
      refine kA1 (v := iv b_.upto) (kBx hp_b_ false 1 1) ?_
      refine kC3 he_q74 (kAr _ _) (kAr _ _) (fun c4 => ?_)
      refine kAm (kAb (by rfl) _ _) ?_
      exact kA5 (kA3 (by rfl) _)
    · refine kA1 (v := AV.fptr (Row.w Edg) (a_p.tab.map Row.cells) a_p.i 0) rfl ?_
      refine kA1 (v := AV.fptr (Row.w Edg) (a_p.tab.map Row.cells) a_p.i 2) rfl ?_
      refine kA1 (v := sv a_.label) (kBx hp_a_ false 1 2) ?_
      refine kA1 (v := AV.fptr (Row.w Edg) (b_p.tab.map Row.cells) b_p.i 0) rfl ?_
      refine kA1 (v := AV.fptr (Row.w Edg) (b_p.tab.map Row.cells) b_p.i 2) rfl ?_
      refine kA1 (v := sv b_.label) (kBx hp_b_ false 1 2) ?_
      refine kA1 (v := bv (ltS a_.label b_.label)) (str_lss _ _) ?_
      refine kAa (fun c5 => ?_) (fun c5 => ?_)
      · exact kA5 (kA3 (by rfl) _)
      · refine kA1 (v := AV.fptr (Row.w Edg) (a_p.tab.map Row.cells) a_p.i 0) rfl ?_
        refine kA1 (v := AV.fptr (Row.w Edg) (a_p.tab.map Row.cells) a_p.i 2) rfl ?_
        refine kA1 (v := sv a_.label) (kBx hp_a_ false 1 2) ?_
        refine kA1 (v := AV.fptr (Row.w Edg) (b_p.tab.map Row.cells) b_p.i 0) rfl ?_
        refine kA1 (v := AV.fptr (Row.w Edg) (b_p.tab.map Row.cells) b_p.i 2) rfl ?_
        refine kA1 (v := sv b_.label) (kBx hp_b_ false 1 2) ?_
        refine kA1 (v := bv (!(ltS a_.label b_.label || decide (a_.label = b_.label)))) (str_gtr _ _) ?_
        refine kAa (fun c6 => ?_) (fun c6 => ?_)
        · exact kA5 (kA3 (by rfl) _)
        · exact kA5 (kA3 (by rfl) _)
theorem tt_q73 : kAi Try.prog n_q73 (C2 (fun c : Int => enc c) tp_q73) := kC2 (kB7 tt_q74 E0) kBb hb_q73 fun a_p b_p => kCm fun a_ hp_a_ => kCm fun b_ hp_b_ => ts_q73 _ (by simp [kBw]) a_ b_ hp_a_ hp_b_
def s0_q72 (l_ : Lattice) : Int → Option (Sum Int (Sum Unit Bool)) := fun w7 =>
  bif decide (w7 < (((l_.edges.getD []).length : Nat) : Int)) then
    kA0 (kC1 (l_.edges.getD []) w7) fun a17 =>
    kA0 (t_q71 l_ a17) fun c21 =>
    kA0 (bif !c21 then some false else (kA0 (kC1 (l_.edges.getD []) w7) fun a23 => kA0 (some (kCu a23.label)) fun c27 => some (!c27))) fun c28 =>
    kA0 (bif (bif !c21 then true else c28) then some false else (some (decide (0 < w7)))) fun c39 =>
    kA0 (bif (!(bif !c21 then true else c28) && c39) then (kA0 (kC1 (l_.edges.getD []) (wr (w7 - 1))) fun a43 => kA0 (kC1 (l_.edges.getD []) w7) fun a47 => kA0 (t_q73 a43 a47) fun c51 => some (decide (0 ≤ c51))) else some false) fun c52 =>
    kA0 (bif (bif !c21 then true else c28) then some false else (some (bif c39 then c52 else false))) fun c68 =>
    bif (bif (bif !c21 then true else c28) then true else c68) then
      some (.inr (.inr false))
    else
      some (.inl (wr (w7 + 1)))
  else
    some (.inr (.inl ()))
def t_q72 (l_ : Lattice) : Option Bool :=
  kA0 (some (kB5 l_.nodes 1 20)) fun c1 =>
  kA0 (bif !c1 then some false else (some (decide (200 < (((l_.edges.getD []).length : Nat) : Int))))) fun c3 =>
  bif (bif !c1 then true else c3) then
    some false
  else
    kA0 (kAw (s0_q72 l_) 0) fun qq74 => match qq74 with
    | (.inl _) =>
        some true
    | (.inr q14) =>
        some q14
def tp_q72 (l_p : Pt Lattice) : Option Bool := kA0 l_p.get fun l_ => t_q72 l_
theorem tl0_q72 (env : Nat → Contract) {B : Base} (he_q65 : env n_q65 = .pure (T1 kCu)) (he_q68 : env kFk = .pure (T3 kB5)) (he_q71 : env n_q71 = .pure (C2 (fun c : Bool => enc c) tp_q71)) (he_q73 : env n_q73 = .pure (C2 (fun c : Int => enc c) tp_q73)) (l_ : Lattice) (l_p : Pt Lattice) (hp_l_ : l_p.get = some l_) (c1 : Bool) (c3 : Bool)  {st : Int} {tm : TM} {h : kA7} (R : (fun (st : Int) tm h5 => match st with | w7 => tm = ((AV.fptr (Row.w Lattice) (l_p.tab.map Row.cells) l_p.i 0) :: und :: .top :: (iv w7) :: (AV.fptr (Row.w Lattice) (l_p.tab.map Row.cells) l_p.i 0) :: (AV.fptr (Row.w Lattice) (l_p.tab.map Row.cells) l_p.i 0) :: (AV.fptr (Row.w Lattice) (l_p.tab.map Row.cells) l_p.i 0) :: (iv l_.nodes) :: (bv c1) :: (bv (!c1)) :: (bv (!c1)) :: .top :: .top :: .top :: .top :: .top :: (cond (!c1) und (bv c3)) :: (bv (bif !c1 then true else c3)) :: .top :: .top :: .top :: .top :: .top :: .top :: .top :: .top :: .top :: .top :: .top :: .top :: .top :: .top :: .top :: .top :: .top :: .top :: .top :: .top :: .top :: .top :: .top :: .top :: .top :: .top :: .top :: .top :: .top :: .top :: .top :: .top :: .top :: .top :: .top :: .top :: .top :: .top :: .top :: .top :: .top :: .top :: .top :: .top :: .top :: .top :: .top :: .top :: .top :: .top :: .top :: []) ∧ Hold B h5 []) st tm h) : Sim (kB3 hm0_q72 xm0_q72 (lb0_q72 env) tm h) (kAw (s0_q72 l_) st) (fun (q : Sum Unit Bool) (r : Res) => match q with | .inl _ => ∃ (q11 : Int) (z10 : AV) (h8 : kA7), r = (.exit 0, ((AV.fptr (Row.w Lattice) (l_p.tab.map Row.cells) l_p.i 0) :: und :: z10 :: (iv q11) :: (AV.fptr (Row.w Lattice) (l_p.tab.map Row.cells) l_p.i 0) :: (AV.fptr (Row.w Lattice) (l_p.tab.map Row.cells) l_p.i 0) :: (AV.fptr (Row.w Lattice) (l_p.tab.map Row.cells) l_p.i 0) :: (iv l_.nodes) :: (bv c1) :: (bv (!c1)) :: (bv (!c1)) :: .top :: .top :: .top :: .top :: .top :: (cond (!c1) und (bv c3)) :: (bv (bif !c1 then true else c3)) :: .top :: .top :: .top :: .top :: .top :: .top :: .top :: .top :: .top :: .top :: .top :: .top :: .top :: .top :: .top :: .top :: .top :: .top :: .top :: .top :: .top :: .top :: .top :: .top :: .top :: .top :: .top :: .top :: .top :: .top :: .top :: .top :: .top :: .top :: .top :: .top :: .top :: .top :: .top :: .top :: .top :: .top :: .top :: .top :: .top :: .top :: .top :: .top :: .top :: .top :: .top :: []), h8) ∧ Hold B h8 [] | .inr q14 => ∃ (q15 : Int) (h12 : kA7), r = (.ret, ((AV.fptr (Row.w Lattice) (l_p.tab.map Row.cells) l_p.i 0) :: und :: (bv q14) :: (iv q15) :: (AV.fptr (Row.w Lattice) (l_p.tab.map Row.cells) l_p.i 0) :: (AV.fptr (Row.w Lattice) (l_p.tab.map Row.cells) l_p.i 0) :: (AV.fptr (Row.w Lattice) (l_p.tab.map Row.cells) l_p.i 0) :: (iv l_.nodes) :: (bv c1) :: (bv (!c1)) :: (bv (!c1)) :: .top :: .top :: .top :: .top :: .top :: (cond (!c1) und (bv c3)) :: (bv (bif !c1 then true else c3)) :: .top :: .top :: .top :: .top :: .top :: .top :: .top :: .top :: .top :: .top :: .top :: .top :: .top :: .top :: .top :: .top :: .top :: .top :: .top :: .top :: .top :: .top :: .top :: .top :: .top :: .top :: .top :: .top :: .top :: .top :: .top :: .top :: .top :: .top :: .top :: .top :: .top :: .top :: .top :: .top :: .top :: .top :: .top :: .top :: .top :: .top :: .top :: .top :: .top :: .top :: .top :: []), h12) ∧ Hold B h12 []) := by
  refine kB1 (Rel := fun (st : Int) tm h5 => match st with | w7 => tm = ((AV.fptr (Row.w Lattice) (l_p.tab.map Row.cells) l_p.i 0) :: und :: .top :: (iv w7) :: (AV.fptr (Row.w Lattice) (l_p.tab.map Row.cells) l_p.i 0) :: (AV.fptr (Row.w Lattice) (l_p.tab.map Row.cells) l_p.i 0) :: (AV.fptr (Row.w Lattice) (l_p.tab.map Row.cells) l_p.i 0) :: (iv l_.nodes) :: (bv c1) :: (bv (!c1)) :: (bv (!c1)) :: .top :: .top :: .top :: .top :: .top :: (cond (!c1) und (bv c3)) :: (bv (bif !c1 then true else c3)) :: .top :: .top :: .top :: .top :: .top :: .top :: .top :: .top :: .top :: .top :: .top :: .top :: .top :: .top :: .top :: .top :: .top :: .top :: .top :: .top :: .top :: .top :: .top :: .top :: .top :: .top :: .top :: .top :: .top :: .top :: .top :: .top :: .top :: .top :: .top :: .top :: .top :: .top :: .top :: .top :: .top :: .top :: .top :: .top :: .top :: .top :: .top :: .top :: .top :: .top :: .top :: []) ∧ Hold B h5 []) (fun w7 tm h5 R => ?_) R
  obtain ⟨rfl, O6⟩ := R
  rw [e_lb0_q72]
  unfold s0_q72
  dsimp only
  refine kA1 (v := AV.fptr (Row.w Lattice) (l_p.tab.map Row.cells) l_p.i 0) rfl ?_
  refine kA1 (v := AV.fptr (Row.w Lattice) (l_p.tab.map Row.cells) l_p.i 1) rfl ?_
  refine kA1 (v := Sl.enc l_.edges) (kBx hp_l_ false 1 1) ?_
  refine kA1 (v := iv (((l_.edges.getD []).length : Nat) : Int)) (Tab.enc h5 l_.edges).len ?_
  refine kA1 (v := bv (decide (w7 < (((l_.edges.getD []).length : Nat) : Int)))) (kAh _ _) ?_
  refine kAa (fun c16 => ?_) (fun c16 => ?_)
  · refine kA1 (v := AV.fptr (Row.w Lattice) (l_p.tab.map Row.cells) l_p.i 0) rfl ?_
    refine kA1 (v := AV.fptr (Row.w Lattice) (l_p.tab.map Row.cells) l_p.i 1) rfl ?_
    refine kA1 (v := Sl.enc l_.edges) (kBx hp_l_ false 1 1) ?_
    refine kAo (Tab.enc h5 l_.edges) (fun m18 a17 hi19 hm20 => ?_)
    refine kDi (y' := tp_q71 l_p ⟨l_.edges.getD [], m18⟩) (by simp only [tp_q71, kEf hm20, hp_l_, kA6]) ?_
    refine kC3 he_q71 (kEx _ _ _ _ rfl) (kD8 _ l_.edges hm20) (fun c21 => ?_)
    refine kAm (kAb (by rfl) _ _) ?_
    refine kA1 (v := bv (!c21)) (kBq _) ?_
    refine sim_g10F (e := bv) (fun hb22 => ?_) (fun y29 y30 y31 y32 y33 y34 y35 y36 y37 c28 => ?_)
    · refine kAe ?_
      refine kAp ?_
      refine kA1 (v := AV.fptr (Row.w Lattice) (l_p.tab.map Row.cells) l_p.i 0) rfl ?_
      refine kAe ?_
      refine kAp ?_
      refine kA1 (v := AV.fptr (Row.w Lattice) (l_p.tab.map Row.cells) l_p.i 1) rfl ?_
      refine kAe ?_
      refine kAp ?_
      refine kA1 (v := Sl.enc l_.edges) (kBx hp_l_ false 1 1) ?_
      refine kAe ?_
      refine kAe ?_
      refine kAp ?_
      refine kAo (Tab.enc h5 l_.edges) (fun m24 a23 hi25 hm26 => ?_)
      refine kAe ?_
      refine kAp ?_
      refine kA1 (v := elp (Sl.enc l_.edges) m24 2) ((Tab.enc h5 l_.edges).fld _ _ _) ?_
      refine kAe ?_
      refine kAp ?_
      refine kA1 (v := sv a23.label) ((Tab.enc h5 l_.edges).ld hm26 false 1 2) ?_
      refine kAe ?_
      refine kI0 ?_
      refine kH5 (t := kCu) he_q65 (kBi _ _) (fun c27 => ?_)
      refine kAe ?_
      refine kA1 (v := bv (!c27)) (kBq _) ?_
      exact kA5 rfl
    · refine kA1 (v := bv (bif !c21 then true else c28)) (kCh _ _ _) ?_
      refine sim_g3F (e := bv) (fun hb38 => ?_) (fun y40 y41 c39 => ?_)
      · refine kAe ?_
        refine kAp ?_
        refine kA1 (v := bv (decide (0 < w7))) (kE0 _ _) ?_
        refine kAe ?_
        exact kA5 rfl
      · simp only [gv_FT]
        refine sim_g15T (e := bv) (fun hb42 => ?_) (fun y53 y54 y55 y56 y57 y58 y59 y60 y61 y62 y63 y64 y65 y66 c52 => ?_)
        · refine kAe ?_
          refine kAp ?_
          refine kA1 (v := AV.fptr (Row.w Lattice) (l_p.tab.map Row.cells) l_p.i 0) rfl ?_
          refine kAe ?_
          refine kAp ?_
          refine kA1 (v := AV.fptr (Row.w Lattice) (l_p.tab.map Row.cells) l_p.i 1) rfl ?_
          refine kAe ?_
          refine kAp ?_
          refine kA1 (v := Sl.enc l_.edges) (kBx hp_l_ false 1 1) ?_
          refine kAe ?_
          refine kAe ?_
          refine kAp ?_
          refine kA1 (v := iv (wr (w7 - 1))) (kC4 _ _) ?_
          refine kAe ?_
          refine kAp ?_
          refine kAo (Tab.enc h5 l_.edges) (fun m44 a43 hi45 hm46 => ?_)
          refine kAe ?_
          refine kAe ?_
          refine kAp ?_
          refine kA1 (v := AV.fptr (Row.w Lattice) (l_p.tab.map Row.cells) l_p.i 0) rfl ?_
          refine kAe ?_
          refine kAp ?_
          refine kA1 (v := AV.fptr (Row.w Lattice) (l_p.tab.map Row.cells) l_p.i 1) rfl ?_
          refine kAe ?_
          refine kAp ?_
          refine kA1 (v := Sl.enc l_.edges) (kBx hp_l_ false 1 1) ?_
          refine kAe ?_
          refine kAe ?_
          refine kAp ?_
          refine kAo (Tab.enc h5 l_.edges) (fun m48 a47 hi49 hm50 => ?_)
          refine kAe ?_
          refine kI0 ?_
          refine kDi (y' := tp_q73 ⟨l_.edges.getD [], m44⟩ ⟨l_.edges.getD [], m48⟩) (by simp only [tp_q73, kEf hm46, kEf hm50, kA6]) ?_
          refine kC3 he_q73 (kD8 _ l_.edges hm46) (kD8 _ l_.edges hm50) (fun c51 => ?_)
          refine kAm (kAb (by rfl) _ _) ?_
          refine kAe ?_
          refine kA1 (v := bv (decide (0 ≤ c51))) (kFn _ _) ?_
          exact kA5 rfl
        · refine kBt (e := bv) (fun hb67 => ?_) (fun c68 => ?_)
          · simp only [hb67, cond_true, cond_false, Bool.not_true, Bool.not_false, Bool.true_and, Bool.and_true, Bool.false_and, Bool.not_not]
            refine kA1 (v := bv (bif c39 then c52 else false)) (kCn _ _ _) ?_
            exact kA5 rfl
          · refine kA1 (v := bv (bif (bif !c21 then true else c28) then true else c68)) (kCh _ _ _) ?_
            refine kAa (fun c69 => ?_) (fun c69 => ?_)
            · exact kA5 ⟨nofun, _, _, rfl, O6⟩
            · refine kA1 (v := iv (wr (w7 + 1))) (kAk _ _) ?_
              exact kA5 ⟨rfl, rfl, O6⟩
  · exact kA5 ⟨nofun, _, _, _, rfl, O6⟩
theorem ts_q72 (env : Nat → Contract) (he_q65 : env n_q65 = .pure (T1 kCu)) (he_q68 : env kFk = .pure (T3 kB5)) (he_q71 : env n_q71 = .pure (C2 (fun c : Bool => enc c) tp_q71)) (he_q73 : env n_q73 = .pure (C2 (fun c : Int => enc c) tp_q73)) (l_ : Lattice) {l_p : Pt Lattice} (hp_l_ : l_p.get = some l_) : Sim (kAl Try.prog env n_q72 [AV.fptr (Row.w Lattice) (l_p.tab.map Row.cells) l_p.i 0] []) (t_q72 l_) fun c p => release p.2 depth p.1 = some ((fun c : Bool => enc c) c) := by
  have O := Hold.nil []
  generalize hB : (⟨[], []⟩ : Base) = B at O
  clear hB
  rw [e_q72]
  unfold t_q72
  refine kA1 (v := AV.fptr (Row.w Lattice) (l_p.tab.map Row.cells) l_p.i 0) rfl ?_
  refine kA1 (v := AV.fptr (Row.w Lattice) (l_p.tab.map Row.cells) l_p.i 0) rfl ?_
  refine kA1 (v := iv l_.nodes) (kBx hp_l_ false 1 0) ?_
  refine kF5 (t := kB5) he_q68 (kAr _ _) (kAr _ _) (kAr _ _) (fun c1 => ?_)
  refine kA1 (v := bv (!c1)) (kBq _) ?_
  refine kBt (e := bv) (fun hb2 => ?_) (fun c3 => ?_)
  · refine kA1 (v := AV.fptr (Row.w Lattice) (l_p.tab.map Row.cells) l_p.i 0) rfl ?_
    refine kA1 (v := AV.fptr (Row.w Lattice) (l_p.tab.map Row.cells) l_p.i 1) rfl ?_
    refine kA1 (v := Sl.enc l_.edges) (kBx hp_l_ false 1 1) ?_
    refine kA1 (v := iv (((l_.edges.getD []).length : Nat) : Int)) (Tab.enc [] l_.edges).len ?_
    refine kA1 (v := bv (decide (200 < (((l_.edges.getD []).length : Nat) : Int)))) (kE0 _ _) ?_
    exact kA5 rfl
  · refine kA1 (v := bv (bif !c1 then true else c3)) (kCh _ _ _) ?_
    refine kAa (fun c4 => ?_) (fun c4 => ?_)
    · exact kA5 (kA3 (by rfl) _)
    · refine kB0 ((tl0_q72 env he_q65 he_q68 he_q71 he_q73 l_ l_p hp_l_ c1 c3) ⟨rfl, O⟩) (fun qq74 r hq => ?_)
      rcases qq74 with _ | q14
      · obtain ⟨q11, z10, h8, rfl, O9⟩ := hq
        rw [e_lk0x0_q72]
        exact kA5 (kA3 (by rfl) _)
      · obtain ⟨q15, h12, rfl, O13⟩ := hq
        rw [e_lk0r_q72]
        exact kA5 (kA3 (by rfl) _)
theorem tt_q72 : kAi Try.prog n_q72 (C1 (fun c : Bool => enc c) tp_q72) := kD1 (kB7 ok_q65 (kB7 ok_q68 (kB7 tt_q71 (kB7 tt_q73 E0)))) kBb hb_q72 fun l_p => kCm fun l_ hp_l_ => ts_q72 _ (by simp [kBw]) (by simp [kBw]) (by simp [kBw]) (by simp [kBw]) l_ hp_l_
def kGs (list_ : Sl Lattice) : (Bool × Int) → Option (Sum (Bool × Int) Bool) := fun (w7, w8) =>
  bif decide (w8 < (((list_.getD []).length : Nat) : Int)) then
    kA0 (bif w7 then some false else (kA0 (kC1 (list_.getD []) w8) fun a17 => kA0 (t_q72 a17) fun c21 => some (!c21))) fun c22 =>
    some (.inl ((bif w7 then true else c22), wr (w8 + 1)))
  else
    some (.inr w7)
def t_q80 (list_ : Sl Lattice) (x_ : Lexicon) (m_ : Model) : Option Int :=
  kA0 (t_q77 x_) fun c1 =>
  kA0 (bif !c1 then some false else (kA0 (t_q82 m_) fun c3 => some (!c3))) fun c4 =>
  kA0 (kAw (kGs list_) ((bif !c1 then true else c4), 0)) fun q11 =>
  bif q11 then
    some 1
  else
    bif decide (8 < (((list_.getD []).length : Nat) : Int)) then
      some 2
    else
      some 0
def tp_q80 (list_ : Sl Lattice) (x_p : Pt Lexicon) (m_p : Pt Model) : Option Int := kA0 x_p.get fun x_ => kA0 m_p.get fun m_ => t_q80 list_ x_ m_
theorem tl0_q80 (env : Nat → Contract) {B : Base} (he_q72 : env n_q72 = .pure (C1 (fun c : Bool => enc c) tp_q72)) (he_q77 : env n_q77 = .pure (C1 (fun c : Bool => enc c) tp_q77)) (he_q82 : env n_q82 = .pure (C1 (fun c : Bool => enc c) tp_q82)) (list_ : Sl Lattice) (x_p : Pt Lexicon) (m_p : Pt Model) (c1 : Bool) (c4 : Bool)  {st : Bool × Int} {tm : TM} {h : kA7} (R : (fun (st : Bool × Int) tm h5 => match st with | (w7, w8) => tm = [Sl.enc list_, AV.fptr (Row.w Lexicon) (x_p.tab.map Row.cells) x_p.i 0, AV.fptr (Row.w Model) (m_p.tab.map Row.cells) m_p.i 0, und, und, und, iv 0, bv w7, iv w8, AV.fptr (Row.w Lexicon) (x_p.tab.map Row.cells) x_p.i 0, bv c1, bv (!c1), bv (!c1), .top, .top, cond (!c1) und (bv c4), bv (bif !c1 then true else c4), .top, .top, .top, .top, .top, .top, .top, .top, .top, .top, .top, .top, .top, .top, und, und, und, und] ∧ Hold B h5 []) st tm h) : Sim (kB3 hm0_q80 xm0_q80 (lb0_q80 env) tm h) (kAw (kGs list_) st) (fun (q : Bool) (r : Res) => match q with | q11 => ∃ (q12 : Int) (h9 : kA7), r = (.exit 0, [Sl.enc list_, AV.fptr (Row.w Lexicon) (x_p.tab.map Row.cells) x_p.i 0, AV.fptr (Row.w Model) (m_p.tab.map Row.cells) m_p.i 0, und, und, und, iv 0, bv q11, iv q12, AV.fptr (Row.w Lexicon) (x_p.tab.map Row.cells) x_p.i 0, bv c1, bv (!c1), bv (!c1), .top, .top, cond (!c1) und (bv c4), bv (bif !c1 then true else c4), .top, .top, .top, .top, .top, .top, .top, .top, .top, .top, .top, .top, .top, .top, und, und, und, und], h9) ∧ Hold B h9 []) := by
  refine kB1 (Rel := fun (st : Bool × Int) tm h5 => match st with | (w7, w8) => tm = [Sl.enc list_, AV.fptr (Row.w Lexicon) (x_p.tab.map Row.cells) x_p.i 0, AV.fptr (Row.w Model) (m_p.tab.map Row.cells) m_p.i 0, und, und, und, iv 0, bv w7, iv w8, AV.fptr (Row.w Lexicon) (x_p.tab.map Row.cells) x_p.i 0, bv c1, bv (!c1), bv (!c1), .top, .top, cond (!c1) und (bv c4), bv (bif !c1 then true else c4), .top, .top, .top, .top, .top, .top, .top, .top, .top, .top, .top, .top, .top, .top, und, und, und, und] ∧ Hold B h5 []) (fun st tm h5 R => ?_) R
  obtain ⟨w7, w8⟩ := st
  obtain ⟨rfl, O6⟩ := R
  rw [e_lb0_q80]
  unfold kGs
  dsimp only
  refine kA1 (v := iv (((list_.getD []).length : Nat) : Int)) (Tab.enc h5 list_).len ?_
  refine kA1 (v := bv (decide (w8 < (((list_.getD []).length : Nat) : Int)))) (kAh _ _) ?_
  refine kAa (fun c15 => ?_) (fun c15 => ?_)
  · refine kBt (e := bv) (fun hb16 => ?_) (fun c22 => ?_)
    · refine kAo (Tab.enc h5 list_) (fun m18 a17 hi19 hm20 => ?_)
      refine kDi (y' := tp_q72 ⟨list_.getD [], m18⟩) (by simp only [tp_q72, kEf hm20, kA6]) ?_
      refine kBp he_q72 (kD8 _ list_ hm20) (fun c21 => ?_)
      refine kAm (kAb (by rfl) _ _) ?_
      refine kA1 (v := bv (!c21)) (kBq _) ?_
      exact kA5 rfl
    · refine kA1 (v := bv (bif w7 then true else c22)) (kCh _ _ _) ?_
      refine kA1 (v := iv (wr (w8 + 1))) (kAk _ _) ?_
      exact kA5 ⟨rfl, rfl, O6⟩
  · exact kA5 ⟨nofun, _, _, rfl, O6⟩
theorem ts_q80 (env : Nat → Contract) (he_q72 : env n_q72 = .pure (C1 (fun c : Bool => enc c) tp_q72)) (he_q77 : env n_q77 = .pure (C1 (fun c : Bool => enc c) tp_q77)) (he_q82 : env n_q82 = .pure (C1 (fun c : Bool => enc c) tp_q82)) (list_ : Sl Lattice) (x_ : Lexicon) (m_ : Model) {x_p : Pt Lexicon} (hp_x_ : x_p.get = some x_) {m_p : Pt Model} (hp_m_ : m_p.get = some m_) : Sim (kAl Try.prog env n_q80 [Sl.enc list_, AV.fptr (Row.w Lexicon) (x_p.tab.map Row.cells) x_p.i 0, AV.fptr (Row.w Model) (m_p.tab.map Row.cells) m_p.i 0] []) (t_q80 list_ x_ m_) fun c p => release p.2 depth p.1 = some ((fun c : Int => enc c) c) := by
  have O := Hold.nil []
  generalize hB : (⟨[], []⟩ : Base) = B at O
  clear hB
  rw [e_q80]
  unfold t_q80
  refine kDi (y' := tp_q77 x_p) (by simp only [tp_q77, hp_x_, kA6]) ?_
  refine kBp he_q77 (kEx _ _ _ _ rfl) (fun c1 => ?_)
  refine kAm (kAb (by rfl) _ _) ?_
  refine kA1 (v := bv (!c1)) (kBq _) ?_
  refine kBt (e := bv) (fun hb2 => ?_) (fun c4 => ?_)
  · refine kDi (y' := tp_q82 m_p) (by simp only [tp_q82, hp_m_, kA6]) ?_
    refine kBp he_q82 (kEx _ _ _ _ rfl) (fun c3 => ?_)
    refine kAm (kAb (by rfl) _ _) ?_
    refine kA1 (v := bv (!c3)) (kBq _) ?_
    exact kA5 rfl
  · refine kA1 (v := bv (bif !c1 then true else c4)) (kCh _ _ _) ?_
    refine kB0 ((tl0_q80 env he_q72 he_q77 he_q82 list_ x_p m_p c1 c4) ⟨rfl, O⟩) (fun qq26 r hq => ?_)
    revert hq
    revert qq26
    intro q11 hq
    obtain ⟨q12, h9, rfl, O10⟩ := hq
    rw [e_lk0x0_q80]
    refine kAa (fun c13 => ?_) (fun c13 => ?_)
    · exact kA5 (kA3 (by rfl) _)
    · refine kA1 (v := iv (((list_.getD []).length : Nat) : Int)) (Tab.enc h9 list_).len ?_
      refine kA1 (v := bv (decide (8 < (((list_.getD []).length : Nat) : Int)))) (kE0 _ _) ?_
      refine kAa (fun c14 => ?_) (fun c14 => ?_)
      · exact kA5 (kA3 (by rfl) _)
      · exact kA5 (kA3 (by rfl) _)
theorem tt_q80 : kAi Try.prog n_q80 (C3 (fun c : Int => enc c) tp_q80) := pureC3 (kB7 tt_q72 (kB7 tt_q77 (kB7 tt_q82 E0))) kBb hb_q80 fun list_ x_p m_p => kCm fun x_ hp_x_ => kCm fun m_ hp_m_ => ts_q80 _ (by simp [kBw]) (by simp [kBw]) (by simp [kBw]) list_ x_ m_ hp_x_ hp_m_
def s0_q83 (m_ : Model) (first_ : ByteArray) (second_ : ByteArray) : Int → Option (Sum Int (Sum Unit Int)) := fun w3 =>
  bif decide (w3 < (((m_.bigrams.getD []).length : Nat) : Int)) then
    kA0 (kC1 (m_.bigrams.getD []) w3) fun a13 =>
    kA0 (bif decide (a13.first = first_) then (kA0 (kC1 (m_.bigrams.getD []) w3) fun a18 => some (decide (a18.second = second_))) else some false) fun c22 =>
    bif (bif decide (a13.first = first_) then c22 else false) then
      kA0 (kC1 (m_.bigrams.getD []) w3) fun a24 =>
      some (.inr (.inr a24.cost))
    else
      some (.inl (wr (w3 + 1)))
  else
    some (.inr (.inl ()))
def t_q83 (m_ : Model) (first_ : ByteArray) (second_ : ByteArray) : Option Int :=
  kA0 (kAw (s0_q83 m_ first_ second_) 0) fun qq32 => match qq32 with
  | (.inl _) =>
      some m_.default
  | (.inr q10) =>
      some q10
def tp_q83 (m_p : Pt Model) (first_ : ByteArray) (second_ : ByteArray) : Option Int := kA0 m_p.get fun m_ => t_q83 m_ first_ second_
theorem tl0_q83 (env : Nat → Contract) {B : Base}  (m_ : Model) (m_p : Pt Model) (hp_m_ : m_p.get = some m_) (first_ : ByteArray) (second_ : ByteArray)  {st : Int} {tm : TM} {h : kA7} (R : (fun (st : Int) tm h1 => match st with | w3 => tm = [AV.fptr (Row.w Model) (m_p.tab.map Row.cells) m_p.i 0, sv first_, sv second_, und, und, und, .top, iv w3, .top, .top, .top, .top, .top, .top, .top, .top, .top, .top, .top, .top, .top, .top, .top, .top, .top, .top, .top, .top, .top, .top, .top, .top, .top, .top, .top, .top, .top, .top, .top, .top, .top, .top, .top, .top, .top, .top, .top, und, und, und, und] ∧ Hold B h1 []) st tm h) : Sim (kB3 hm0_q83 xm0_q83 (lb0_q83 env) tm h) (kAw (s0_q83 m_ first_ second_) st) (fun (q : Sum Unit Int) (r : Res) => match q with | .inl _ => ∃ (q7 : Int) (z6 : AV) (h4 : kA7), r = (.exit 0, [AV.fptr (Row.w Model) (m_p.tab.map Row.cells) m_p.i 0, sv first_, sv second_, und, und, und, z6, iv q7, .top, .top, .top, .top, .top, .top, .top, .top, .top, .top, .top, .top, .top, .top, .top, .top, .top, .top, .top, .top, .top, .top, .top, .top, .top, .top, .top, .top, .top, .top, .top, .top, .top, .top, .top, .top, .top, .top, .top, und, und, und, und], h4) ∧ Hold B h4 [] | .inr q10 => ∃ (q11 : Int) (h8 : kA7), r = (.ret, [AV.fptr (Row.w Model) (m_p.tab.map Row.cells) m_p.i 0, sv first_, sv second_, und, und, und, iv q10, iv q11, .top, .top, .top, .top, .top, .top, .top, .top, .top, .top, .top, .top, .top, .top, .top, .top, .top, .top, .top, .top, .top, .top, .top, .top, .top, .top, .top, .top, .top, .top, .top, .top, .top, .top, .top, .top, .top, .top, .top, und, und, und, und], h8) ∧ Hold B h8 []) := by
  refine kB1 (Rel := fun (st : Int) tm h1 => match st with | w3 => tm = [AV.fptr (Row.w Model) (m_p.tab.map Row.cells) m_p.i 0, sv first_, sv second_, und, und, und, .top, iv w3, .top, .top, .top, .top, .top, .top, .top, .top, .top, .top, .top, .top, .top, .top, .top, .top, .top, .top, .top, .top, .top, .top, .top, .top, .top, .top, .top, .top, .top, .top, .top, .top, .top, .top, .top, .top, .top, .top, .top, und, und, und, und] ∧ Hold B h1 []) (fun w3 tm h1 R => ?_) R
  obtain ⟨rfl, O2⟩ := R
  rw [e_lb0_q83]
  unfold s0_q83
  dsimp only
  refine kA1 (v := AV.fptr (Row.w Model) (m_p.tab.map Row.cells) m_p.i 0) rfl ?_
  refine kA1 (v := AV.fptr (Row.w Model) (m_p.tab.map Row.cells) m_p.i 1) rfl ?_
  refine kA1 (v := Sl.enc m_.bigrams) (kBx hp_m_ false 1 1) ?_
  refine kA1 (v := iv (((m_.bigrams.getD []).length : Nat) : Int)) (Tab.enc h1 m_.bigrams).len ?_
  refine kA1 (v := bv (decide (w3 < (((m_.bigrams.getD []).length : Nat) : Int)))) (kAh _ _) ?_
  refine kAa (fun c12 => ?_) (fun c12 => ?_)
  · refine kA1 (v := AV.fptr (Row.w Model) (m_p.tab.map Row.cells) m_p.i 0) rfl ?_
    refine kA1 (v := AV.fptr (Row.w Model) (m_p.tab.map Row.cells) m_p.i 1) rfl ?_
    refine kA1 (v := Sl.enc m_.bigrams) (kBx hp_m_ false 1 1) ?_
    refine kAo (Tab.enc h1 m_.bigrams) (fun m14 a13 hi15 hm16 => ?_)
    refine kA1 (v := elp (Sl.enc m_.bigrams) m14 0) ((Tab.enc h1 m_.bigrams).fld _ _ _) ?_
    refine kA1 (v := sv a13.first) ((Tab.enc h1 m_.bigrams).ld hm16 false 1 0) ?_
    refine kA1 (v := bv (decide (a13.first = first_))) (kEq _ _) ?_
    refine kBs (e := bv) (fun hb17 => ?_) (fun c22 => ?_)
    · refine kA1 (v := AV.fptr (Row.w Model) (m_p.tab.map Row.cells) m_p.i 0) rfl ?_
      refine kA1 (v := AV.fptr (Row.w Model) (m_p.tab.map Row.cells) m_p.i 1) rfl ?_
      refine kA1 (v := Sl.enc m_.bigrams) (kBx hp_m_ false 1 1) ?_
      refine kAo (Tab.enc h1 m_.bigrams) (fun m19 a18 hi20 hm21 => ?_)
      refine kA1 (v := elp (Sl.enc m_.bigrams) m19 1) ((Tab.enc h1 m_.bigrams).fld _ _ _) ?_
      refine kA1 (v := sv a18.second) ((Tab.enc h1 m_.bigrams).ld hm21 false 1 1) ?_
      refine kA1 (v := bv (decide (a18.second = second_))) (kEq _ _) ?_
      exact kA5 rfl
    · refine kA1 (v := bv (bif decide (a13.first = first_) then c22 else false)) (kCn _ _ _) ?_
      refine kAa (fun c23 => ?_) (fun c23 => ?_)
      · refine kA1 (v := AV.fptr (Row.w Model) (m_p.tab.map Row.cells) m_p.i 0) rfl ?_
        refine kA1 (v := AV.fptr (Row.w Model) (m_p.tab.map Row.cells) m_p.i 1) rfl ?_
        refine kA1 (v := Sl.enc m_.bigrams) (kBx hp_m_ false 1 1) ?_
        refine kAo (Tab.enc h1 m_.bigrams) (fun m25 a24 hi26 hm27 => ?_)
        refine kA1 (v := elp (Sl.enc m_.bigrams) m25 2) ((Tab.enc h1 m_.bigrams).fld _ _ _) ?_
        refine kA1 (v := iv a24.cost) ((Tab.enc h1 m_.bigrams).ld hm27 false 1 2) ?_
        exact kA5 ⟨nofun, _, _, rfl, O2⟩
      · refine kA1 (v := iv (wr (w3 + 1))) (kAk _ _) ?_
        exact kA5 ⟨rfl, rfl, O2⟩
  · exact kA5 ⟨nofun, _, _, _, rfl, O2⟩
theorem ts_q83 (env : Nat → Contract)  (m_ : Model) (first_ : ByteArray) (second_ : ByteArray) {m_p : Pt Model} (hp_m_ : m_p.get = some m_) : Sim (kAl Try.prog env n_q83 [AV.fptr (Row.w Model) (m_p.tab.map Row.cells) m_p.i 0, sv first_, sv second_] []) (t_q83 m_ first_ second_) fun c p => release p.2 depth p.1 = some ((fun c : Int => enc c) c) := by
  have O := Hold.nil []
  generalize hB : (⟨[], []⟩ : Base) = B at O
  clear hB
  rw [e_q83]
  unfold t_q83
  refine kB0 ((tl0_q83 env m_ m_p hp_m_ first_ second_) ⟨rfl, O⟩) (fun qq32 r hq => ?_)
  rcases qq32 with _ | q10
  · obtain ⟨q7, z6, h4, rfl, O5⟩ := hq
    rw [e_lk0x0_q83]
    refine kA1 (v := AV.fptr (Row.w Model) (m_p.tab.map Row.cells) m_p.i 0) rfl ?_
    refine kA1 (v := AV.fptr (Row.w Model) (m_p.tab.map Row.cells) m_p.i 0) rfl ?_
    refine kA1 (v := iv m_.default) (kBx hp_m_ false 1 0) ?_
    exact kA5 (kA3 (by rfl) _)
  · obtain ⟨q11, h8, rfl, O9⟩ := hq
    rw [e_lk0r_q83]
    exact kA5 (kA3 (by rfl) _)
theorem tt_q83 : kAi Try.prog n_q83 (C3 (fun c : Int => enc c) tp_q83) := pureC3 E0 kBb hb_q83 fun m_p first_ second_ => kCm fun m_ hp_m_ => ts_q83 _  m_ first_ second_ hp_m_
def s0_q84 (m_ : Model) (words_ : Sl ByteArray) : (Int × ByteArray × Int) → Option (Sum (Int × ByteArray × Int) Int) := fun (w3, w4, w5) =>
  bif decide (w5 < (((words_.getD []).length : Nat) : Int)) then
    kA0 (kC1 (words_.getD []) w5) fun a12 =>
    kA0 (t_q83 m_ w4 a12) fun c16 =>
    kA0 (kC1 (words_.getD []) w5) fun a17 =>
    some (.inl (wr (w3 + c16), a17, wr (w5 + 1)))
  else
    some (.inr w3)
def t_q84 (m_ : Model) (words_ : Sl ByteArray) : Option Int :=
  kA0 (kAw (s0_q84 m_ words_) (0, (⟨#[]⟩ : ByteArray), 0)) fun q8 =>
  some q8
def tp_q84 (m_p : Pt Model) (words_ : Sl ByteArray) : Option Int := kA0 m_p.get fun m_ => t_q84 m_ words_
theorem tl0_q84 (env : Nat → Contract) {B : Base} (he_q83 : env n_q83 = .pure (C3 (fun c : Int => enc c) tp_q83)) (m_ : Model) (m_p : Pt Model) (hp_m_ : m_p.get = some m_) (words_ : Sl ByteArray)  {st : Int × ByteArray × Int} {tm : TM} {h : kA7} (R : (fun (st : Int × ByteArray × Int) tm h1 => match st with | (w3, w4, w5) => tm = [AV.fptr (Row.w Model) (m_p.tab.map Row.cells) m_p.i 0, Sl.enc words_, und, und, iv 0, iv w3, sv w4, iv w5, .top, .top, .top, .top, .top, .top, .top, .top, .top, .top, .top, .top, .top, .top, .top, .top, .top, .top, .top, und] ∧ Hold B h1 []) st tm h) : Sim (kB3 hm0_q84 xm0_q84 (lb0_q84 env) tm h) (kAw (s0_q84 m_ words_) st) (fun (q : Int) (r : Res) => match q with | q8 => ∃ (q9 : ByteArray) (q10 : Int) (h6 : kA7), r = (.exit 0, [AV.fptr (Row.w Model) (m_p.tab.map Row.cells) m_p.i 0, Sl.enc words_, und, und, iv 0, iv q8, sv q9, iv q10, .top, .top, .top, .top, .top, .top, .top, .top, .top, .top, .top, .top, .top, .top, .top, .top, .top, .top, .top, und], h6) ∧ Hold B h6 []) := by
  refine kB1 (Rel := fun (st : Int × ByteArray × Int) tm h1 => match st with | (w3, w4, w5) => tm = [AV.fptr (Row.w Model) (m_p.tab.map Row.cells) m_p.i 0, Sl.enc words_, und, und, iv 0, iv w3, sv w4, iv w5, .top, .top, .top, .top, .top, .top, .top, .top, .top, .top, .top, .top, .top, .top, .top, .top, .top, .top, .top, und] ∧ Hold B h1 []) (fun st tm h1 R => ?_) R
  obtain ⟨w3, w4, w5⟩ := st
  obtain ⟨rfl, O2⟩ := R
  rw [e_lb0_q84]
  unfold s0_q84
  dsimp only
  refine kA1 (v := iv (((words_.getD []).length : Nat) : Int)) (Tab.enc h1 words_).len ?_
  refine kA1 (v := bv (decide (w5 < (((words_.getD []).length : Nat) : Int)))) (kAh _ _) ?_
  refine kAa (fun c11 => ?_) (fun c11 => ?_)
  · refine kAo (Tab.enc h1 words_) (fun m13 a12 hi14 hm15 => ?_)
    refine kA1 (v := sv a12) ((Tab.enc h1 words_).ld hm15 false 1 0) ?_
    refine kDi (y' := tp_q83 m_p w4 a12) (by simp only [tp_q83, hp_m_, kA6]) ?_
    refine kF7 he_q83 (kEx _ _ _ _ rfl) (kBi _ _) (kBi _ _) (fun c16 => ?_)
    refine kAm (kAb (by rfl) _ _) ?_
    refine kA1 (v := iv (wr (w3 + c16))) (kAk _ _) ?_
    refine kAo (Tab.enc h1 words_) (fun m18 a17 hi19 hm20 => ?_)
    refine kA1 (v := sv a17) ((Tab.enc h1 words_).ld hm20 false 1 0) ?_
    refine kA1 (v := iv (wr (w5 + 1))) (kAk _ _) ?_
    exact kA5 ⟨rfl, rfl, O2⟩
  · exact kA5 ⟨nofun, _, _, _, rfl, O2⟩
theorem ts_q84 (env : Nat → Contract) (he_q83 : env n_q83 = .pure (C3 (fun c : Int => enc c) tp_q83)) (m_ : Model) (words_ : Sl ByteArray) {m_p : Pt Model} (hp_m_ : m_p.get = some m_) : Sim (kAl Try.prog env n_q84 [AV.fptr (Row.w Model) (m_p.tab.map Row.cells) m_p.i 0, Sl.enc words_] []) (t_q84 m_ words_) fun c p => release p.2 depth p.1 = some ((fun c : Int => enc c) c) := by
  have O := Hold.nil []
  generalize hB : (⟨[], []⟩ : Base) = B at O
  clear hB
  rw [e_q84]
  unfold t_q84
  refine kB0 ((tl0_q84 env he_q83 m_ m_p hp_m_ words_) ⟨rfl, O⟩) (fun qq24 r hq => ?_)
  revert hq
  revert qq24
  intro q8 hq
  obtain ⟨q9, q10, h6, rfl, O7⟩ := hq
  rw [e_lk0x0_q84]
  exact kA5 (kA3 (by rfl) _)
theorem tt_q84 : kAi Try.prog n_q84 (C2 (fun c : Int => enc c) tp_q84) := kC2 (kB7 tt_q83 E0) kBb hb_q84 fun m_p words_ => kCm fun m_ hp_m_ => ts_q84 _ (by simp [kBw]) m_ words_ hp_m_
def s0_q76 (x_ : Lexicon) (word_ : ByteArray) : Int → Option (Sum Int (Sum Unit Int)) := fun w3 =>
  bif decide (w3 < (((x_.entries.getD []).length : Nat) : Int)) then
    kA0 (kC1 (x_.entries.getD []) w3) fun a13 =>
    bif decide (a13.word = word_) then
      some (.inr (.inr w3))
    else
      some (.inl (wr (w3 + 1)))
  else
    some (.inr (.inl ()))
def t_q76 (x_ : Lexicon) (word_ : ByteArray) : Option Int :=
  kA0 (kAw (s0_q76 x_ word_) 0) fun qq22 => match qq22 with
  | (.inl _) =>
      some (-1)
  | (.inr q10) =>
      some q10
def tp_q76 (x_p : Pt Lexicon) (word_ : ByteArray) : Option Int := kA0 x_p.get fun x_ => t_q76 x_ word_
theorem tl0_q76 (env : Nat → Contract) {B : Base}  (x_ : Lexicon) (x_p : Pt Lexicon) (hp_x_ : x_p.get = some x_) (word_ : ByteArray)  {st : Int} {tm : TM} {h : kA7} (R : (fun (st : Int) tm h1 => match st with | w3 => tm = [AV.fptr (Row.w Lexicon) (x_p.tab.map Row.cells) x_p.i 0, sv word_, und, und, .top, iv w3, .top, .top, .top, .top, .top, .top, .top, .top, .top, .top, .top, .top, .top, .top, .top, .top, .top, .top, .top, .top] ∧ Hold B h1 []) st tm h) : Sim (kB3 hm0_q76 xm0_q76 (lb0_q76 env) tm h) (kAw (s0_q76 x_ word_) st) (fun (q : Sum Unit Int) (r : Res) => match q with | .inl _ => ∃ (q7 : Int) (z6 : AV) (h4 : kA7), r = (.exit 0, [AV.fptr (Row.w Lexicon) (x_p.tab.map Row.cells) x_p.i 0, sv word_, und, und, z6, iv q7, .top, .top, .top, .top, .top, .top, .top, .top, .top, .top, .top, .top, .top, .top, .top, .top, .top, .top, .top, .top], h4) ∧ Hold B h4 [] | .inr q10 => ∃ (q11 : Int) (h8 : kA7), r = (.ret, [AV.fptr (Row.w Lexicon) (x_p.tab.map Row.cells) x_p.i 0, sv word_, und, und, iv q10, iv q11, .top, .top, .top, .top, .top, .top, .top, .top, .top, .top, .top, .top, .top, .top, .top, .top, .top, .top, .top, .top], h8) ∧ Hold B h8 []) := by
  refine kB1 (Rel := fun (st : Int) tm h1 => match st with | w3 => tm = [AV.fptr (Row.w Lexicon) (x_p.tab.map Row.cells) x_p.i 0, sv word_, und, und, .top, iv w3, .top, .top, .top, .top, .top, .top, .top, .top, .top, .top, .top, .top, .top, .top, .top, .top, .top, .top, .top, .top] ∧ Hold B h1 []) (fun w3 tm h1 R => ?_) R
  obtain ⟨rfl, O2⟩ := R
  rw [e_lb0_q76]
  unfold s0_q76
  dsimp only
  refine kA1 (v := AV.fptr (Row.w Lexicon) (x_p.tab.map Row.cells) x_p.i 0) rfl ?_
  refine kA1 (v := AV.fptr (Row.w Lexicon) (x_p.tab.map Row.cells) x_p.i 0) rfl ?_
  refine kA1 (v := Sl.enc x_.entries) (kBx hp_x_ false 1 0) ?_
  refine kA1 (v := iv (((x_.entries.getD []).length : Nat) : Int)) (Tab.enc h1 x_.entries).len ?_
  refine kA1 (v := bv (decide (w3 < (((x_.entries.getD []).length : Nat) : Int)))) (kAh _ _) ?_
  refine kAa (fun c12 => ?_) (fun c12 => ?_)
  · refine kA1 (v := AV.fptr (Row.w Lexicon) (x_p.tab.map Row.cells) x_p.i 0) rfl ?_
    refine kA1 (v := AV.fptr (Row.w Lexicon) (x_p.tab.map Row.cells) x_p.i 0) rfl ?_
    refine kA1 (v := Sl.enc x_.entries) (kBx hp_x_ false 1 0) ?_
    refine kAo (Tab.enc h1 x_.entries) (fun m14 a13 hi15 hm16 => ?_)
    refine kA1 (v := elp (Sl.enc x_.entries) m14 0) ((Tab.enc h1 x_.entries).fld _ _ _) ?_
    refine kA1 (v := sv a13.word) ((Tab.enc h1 x_.entries).ld hm16 false 1 0) ?_
    refine kA1 (v := bv (decide (a13.word = word_))) (kEq _ _) ?_
    refine kAa (fun c17 => ?_) (fun c17 => ?_)
    · exact kA5 ⟨nofun, _, _, rfl, O2⟩
    · refine kA1 (v := iv (wr (w3 + 1))) (kAk _ _) ?_
      exact kA5 ⟨rfl, rfl, O2⟩
  · exact kA5 ⟨nofun, _, _, _, rfl, O2⟩
theorem ts_q76 (env : Nat → Contract)  (x_ : Lexicon) (word_ : ByteArray) {x_p : Pt Lexicon} (hp_x_ : x_p.get = some x_) : Sim (kAl Try.prog env n_q76 [AV.fptr (Row.w Lexicon) (x_p.tab.map Row.cells) x_p.i 0, sv word_] []) (t_q76 x_ word_) fun c p => release p.2 depth p.1 = some ((fun c : Int => enc c) c) := by
  have O := Hold.nil []
  generalize hB : (⟨[], []⟩ : Base) = B at O
  clear hB
  rw [e_q76]
  unfold t_q76
  refine kB0 ((tl0_q76 env x_ x_p hp_x_ word_) ⟨rfl, O⟩) (fun qq22 r hq => ?_)
  rcases qq22 with _ | q10
  · obtain ⟨q7, z6, h4, rfl, O5⟩ := hq
    rw [e_lk0x0_q76]
    exact kA5 (kA3 (by rfl) _)
  · obtain ⟨q11, h8, rfl, O9⟩ := hq
    rw [e_lk0r_q76]
    exact kA5 (kA3 (by rfl) _)
theorem tt_q76 : kAi Try.prog n_q76 (C2 (fun c : Int => enc c) tp_q76) := kC2 E0 kBb hb_q76 fun x_p word_ => kCm fun x_ hp_x_ => ts_q76 _  x_ word_ hp_x_
def kGt (text_ : ByteArray) (w23 : Int) (a52 : Edg) : ((Sl Int) × Int) → Option (Sum ((Sl Int) × Int) (Sl Int)) := fun (w56, w59) =>
  kA0 (bif decide ((wr (w59 + 1)) < (wr ((text_.size : Int) + 1))) then (some (decide (a52.frm = w23))) else some false) fun c68 =>
  bif (bif decide ((wr (w59 + 1)) < (wr ((text_.size : Int) + 1))) then c68 else false) then
    kA0 (kC1 (w56.getD []) (wr ((wr (w23 * (wr ((text_.size : Int) + 1)))) + w59))) fun a70 =>
    kA0 (bif decide (a70 < 0) then some false else (kA0 (subB text_ (some w59) (some (wr (w59 + 1)))) fun s75 => some (!decide (s75 = a52.label)))) fun c76 =>
    bif (bif decide (a70 < 0) then true else c76) then
      some (.inl (w56, wr (w59 + 1)))
    else
      kA0 (kC1 (w56.getD []) (wr ((wr ((wr (a52.upto * (wr ((text_.size : Int) + 1)))) + w59)) + 1))) fun a88 =>
      kA0 (bif decide (a88 < 0) then some false else (some (decide ((wr (a70 + a52.cost)) < a88)))) fun c93 =>
      bif (bif decide (a88 < 0) then true else c93) then
        kA0 (kC1 (w56.getD []) (wr ((wr ((wr (a52.upto * (wr ((text_.size : Int) + 1)))) + w59)) + 1))) fun a95 =>
        some (.inl ((kGk w56 (wr ((wr ((wr (a52.upto * (wr ((text_.size : Int) + 1)))) + w59)) + 1)) (wr (a70 + a52.cost))), wr (w59 + 1)))
      else
        some (.inl (w56, wr (w59 + 1)))
  else
    some (.inr w56)
def s2_q75 (l_ : Lattice) (text_ : ByteArray) (w23 : Int) : ((Sl Int) × Int) → Option (Sum ((Sl Int) × Int) (Sl Int)) := fun (w38, w41) =>
  bif decide (w41 < (((l_.edges.getD []).length : Nat) : Int)) then
    kA0 (kC1 (l_.edges.getD []) w41) fun a52 =>
    kA0 (kAw (kGt text_ w23 a52) (w38, 0)) fun q62 =>
    some (.inl (q62, wr (w41 + 1)))
  else
    some (.inr w38)
def s1_q75 (l_ : Lattice) (text_ : ByteArray) : ((Sl Int) × Int) → Option (Sum ((Sl Int) × Int) (Sl Int)) := fun (w20, w23) =>
  bif decide (w23 < l_.nodes) then
    kA0 (kAw (s2_q75 l_ text_ w23) (w20, 0)) fun q44 =>
    some (.inl (q44, wr (w23 + 1)))
  else
    some (.inr w20)
def s0_q75 (l5 : List Int) : ((Sl Int) × Int) → Option (Sum ((Sl Int) × Int) (Sl Int)) := fun (w6, w9) =>
  bif decide (w9 < ((((some l5).getD []).length : Nat) : Int)) then
    kA0 (kC1 (w6.getD []) w9) fun a113 =>
    some (.inl ((kGk w6 w9 (-1)), wr (w9 + 1)))
  else
    some (.inr w6)
def t_q75 (l_ : Lattice) (text_ : ByteArray) : Option Int :=
  kA0 (kH8 0 (wr (l_.nodes * (wr ((text_.size : Int) + 1))))) fun l5 =>
  kA0 (kAw (s0_q75 l5) ((some l5), 0)) fun q12 =>
  kA0 (kC1 (q12.getD []) 0) fun a14 =>
  kA0 (kAw (s1_q75 l_ text_) ((kGk q12 0 0), 0)) fun q26 =>
  kA0 (kC1 (q26.getD []) (wr ((wr (l_.nodes * (wr ((text_.size : Int) + 1)))) - 1))) fun a33 =>
  some a33
def tp_q75 (l_p : Pt Lattice) (text_ : ByteArray) : Option Int := kA0 l_p.get fun l_ => t_q75 l_ text_
end Go.Proofs.Ytcdahloanikigaa
