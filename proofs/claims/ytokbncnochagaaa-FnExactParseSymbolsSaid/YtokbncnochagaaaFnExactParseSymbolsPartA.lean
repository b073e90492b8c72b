import Derived.Test.YtokbncnochagaaaFnExactParseSymbolsGen
namespace Go.Proofs.Ytokbncnochagaaa
open Go Go.Eng Go.Eng.Cod
set_option maxRecDepth 100000
set_option linter.unusedVariables false
set_option linter.unusedSimpArgs false
theorem kHv : kBz Try.prog (kC4 []) := E0
def within (a b c : Int) : Bool := decide (b ≤ a) && decide (a ≤ c)
theorem ok_q23 : kAp Try.prog n_q23 (T3 within) := pureT3 kHv kBh hb_q23 fun a b c => by
  simp [e_q23, within]
theorem ok_q48 : kAp Try.prog n_q48 (T3 within) := pureT3 kHv kBh hb_q48 fun a b c => by
  simp [e_q48, within]
def kFt (a : Int) : Int := bif decide (a < 0) then wr (-a) else a
theorem ok_q10 : kAp Try.prog n_q10 (T1 kFt) := kFs kHv kBh hb_q10 fun a => by
  simp [e_q10, kFt]
theorem ok_q54 : kAp Try.prog n_q54 (T1 kFt) := kFs kHv kBh hb_q54 fun a => by
  simp [e_q54, kFt]
theorem ok_q50 : kAp Try.prog n_q50 (T2 fun a b : Int => min a b) := kHa kHv kBh hb_q50 fun a b => by
  simp [e_q50, minI]
theorem ok_q49 : kAp Try.prog n_q49 (T2 fun a b : Int => max a b) := kHa kHv kBh hb_q49 fun a b => by
  simp [e_q49, maxI]
def kDe (b : Box) : Bool := within b.x1 0 b.x2 && within b.y1 0 b.y2 && decide (b.x2 ≤ 4095) && decide (b.y2 ≤ 4095)
theorem ok_q7 : kAp Try.prog n_q7 (T1 kDe) :=
  kFs (E1 ok_q23) kBh hb_q7 fun b => by
  simp [e_q7, kC4, kCl, kA5, cut, kDe]
theorem ok_q52 : kAp Try.prog n_q52 (T1 kDe) :=
  kFs (E1 ok_q48) kBh hb_q52 fun b => by
  simp [e_q52, kC4, kCl, kA5, cut, kDe]
theorem ok_q41 : kAp Try.prog n_q41 (T1 fun b : Box => b) := kFs kHv kBh hb_q41 fun b => by
  simp [e_q41, kCl, kA5, cut, kAj, kAi, retL, resL, pack]
theorem ok_q27 : kAp Try.prog n_q27 (T2 fun a b : Box => decide (a = b)) := kHa kHv kBh hb_q27 fun a b => by
  simp [e_q27, kCl, kA5, cut]
  obtain ⟨a1, a2, a3, a4⟩ := a
  obtain ⟨b1, b2, b3, b4⟩ := b
  simp
theorem ok_q31 : kAp Try.prog n_q31 (T2 fun a b : TreeNode => decide (a = b)) := kHa E0 kBh hb_q31 fun a b => by
  simp [e_q31, kC4, kCl, kA5, cut]
  obtain ⟨a0, a1, a2, a3⟩ := a
  obtain ⟨b0, b1, b2, b3⟩ := b
  simp
theorem ok_q42 : kAp Try.prog n_q42 (T1 fun b : Symbol => b) := kFs (E1 ok_q41) kBh hb_q42 fun b => by
  simp [e_q42, kC4, kCl, kA5, cut, kAj, kAi, retL, resL, pack]
theorem ok_q28 : kAp Try.prog n_q28 (T2 fun a b : Symbol => decide (a = b)) := kHa (E1 ok_q27) kBh hb_q28 fun a b => by
  simp [e_q28, kC4, kCl, kA5, cut]
  obtain ⟨a0, a1⟩ := a
  obtain ⟨b0, b1⟩ := b
  simp
def names : List ByteArray := [⟨#[110, 111, 110, 101]⟩, ⟨#[114, 105, 103, 104, 116]⟩, ⟨#[97, 98, 111, 118, 101]⟩, ⟨#[98, 101, 108, 111, 119]⟩, ⟨#[117, 112, 112, 101, 114]⟩, ⟨#[108, 111, 119, 101, 114]⟩, ⟨#[105, 110, 115, 105, 100, 101]⟩]
@[simp] theorem names_len : names.length = 7 := rfl
def find (s : ByteArray) : List ByteArray → Nat → Int
  | [], _ => -1
  | x :: r, i => bif decide (x = s) then (i : Int) else find s r (i + 1)
def kAz (a b : Box) : Int :=
  bif !decide (a = b) && (decide (a.x1 ≤ b.x1) && (decide (a.y1 ≤ b.y1) && (decide (b.x2 ≤ a.x2) && decide (b.y2 ≤ a.y2)))) then 6
  else bif decide (wr (a.x1 + a.x2) ≤ wr (2 * b.x1)) then
    bif decide (wr (2 * b.y2) ≤ wr (a.y1 + a.y2)) then 4 else bif decide (wr (a.y1 + a.y2) ≤ wr (2 * b.y1)) then 5 else 1
  else bif decide (b.y2 ≤ a.y1) then 2 else bif decide (a.y2 ≤ b.y1) then 3 else 0
theorem ok_q20 : kAp Try.prog n_q20 (T2 kAz) := kHa kHv kBh hb_q20 fun a b => by
  have hc := aCmp_box a b
  simp [e_q20, kCl, kA5, cut, hc.1, hc.2, kAz]
  generalize decide (a = b) = c0
  generalize decide (a.x1 ≤ b.x1) = c1
  generalize decide (a.y1 ≤ b.y1) = c2
  generalize decide (b.x2 ≤ a.x2) = c3
  generalize decide (b.y2 ≤ a.y2) = c4
  generalize decide (wr (a.x1 + a.x2) ≤ wr (2 * b.x1)) = c5
  generalize decide (wr (2 * b.y2) ≤ wr (a.y1 + a.y2)) = c6
  generalize decide (wr (a.y1 + a.y2) ≤ wr (2 * b.y1)) = c7
  generalize decide (b.y2 ≤ a.y1) = c8
  generalize decide (a.y2 ≤ b.y1) = c9
  cases c5 <;> cases c1 <;> cases c2 <;> cases c3 <;> cases c4 <;> cases c0 <;> simp
theorem ok_q57 : kAp Try.prog n_q57 (T2 kAz) := kHa kHv kBh hb_q57 fun a b => by
  have hc := aCmp_box a b
  simp [e_q57, kCl, kA5, cut, hc.1, hc.2, kAz]
  generalize decide (a = b) = c0
  generalize decide (a.x1 ≤ b.x1) = c1
  generalize decide (a.y1 ≤ b.y1) = c2
  generalize decide (b.x2 ≤ a.x2) = c3
  generalize decide (b.y2 ≤ a.y2) = c4
  generalize decide (wr (a.x1 + a.x2) ≤ wr (2 * b.x1)) = c5
  generalize decide (wr (2 * b.y2) ≤ wr (a.y1 + a.y2)) = c6
  generalize decide (wr (a.y1 + a.y2) ≤ wr (2 * b.y1)) = c7
  generalize decide (b.y2 ≤ a.y1) = c8
  generalize decide (a.y2 ≤ b.y1) = c9
  cases c5 <;> cases c1 <;> cases c2 <;> cases c3 <;> cases c4 <;> cases c0 <;> simp
def kBi (a b : Box) : Box := ⟨min a.x1 b.x1, min a.y1 b.y1, max a.x2 b.x2, max a.y2 b.y2⟩
theorem ok_q14 : kAp Try.prog n_q14 (T2 kBi) := kHa E0 kBh hb_q14 fun a b => by
  simp [e_q14, kCl, kA5, cut, kAj, kAi, kBv, kF7, retL, resL, pack, kBi]
theorem ok_q53 : kAp Try.prog n_q53 (T2 kBi) := kHa (E2 ok_q50 ok_q49) kBh hb_q53 fun a b => by
  simp [e_q53, kC4, kCl, kA5, cut, kAj, kAi, kBv, kF7, retL, resL, pack, kBi]
def isLow (b : UInt8) : Bool := decide ((97 : Int) ≤ (b.toNat : Int)) && decide ((b.toNat : Int) ≤ 122)
theorem ok_q13 : kAp Try.prog n_q13 (T1 isLow) := kFs E0 kBh hb_q13 fun b => by
  simp [e_q13, isLow]
theorem ok_q51 : kAp Try.prog n_q51 (T1 isLow) := kFs E0 kBh hb_q51 fun b => by
  simp [e_q51, isLow]
theorem kDx : kAp Try.prog kCg (T2 kGn) :=
  pure_indexByte (fn := Try.f127) Try.func127 (by kernel_rfl) (by kernel_rfl) (by kernel_rfl) (by kernel_rfl)
theorem ok_q25 : kAp Try.prog n_q25 (T2 kGn) := kHa (E1 kDx) kBh hb_q25 fun s b => by
  simp [e_q25, kC4]
def byte0 (t : ByteArray) : UInt8 := (bl t).headD 0
theorem one_byte {t : ByteArray} (h : t.size = 1) : bl t = [byte0 t] := by
  have : (bl t).length = 1 := by rw [bl_len, h]
  match hb : bl t, this with
  | [b], _ => simp [byte0, hb]
theorem ok_q24 : kAp Try.prog n_q24 (G2 (fun _ t : ByteArray => decide (t.size = 1)) fun s t => iv (kGn s (byte0 t))) :=
  pureG2 (E1 ok_q25) kBh hb_q24 fun s t h => by
  have h1 : t.size = 1 := of_decide_eq_true h
  have h2 : kC1 .str (sv t) = some (iv 1) := by rw [aLenK_str, h1]; rfl
  have h3 : kBo .eql .plain (iv 1) (iv 0) = some (bv false) := rfl
  have h4 : kBo .eql .plain (iv 1) (iv 1) = some (bv true) := rfl
  have h5 : kD2 (sv t) (iv 0) = some (bt (byte0 t)) := by
    rw [idx_str, h1, one_byte h1]
    rfl
  rw [e_q24]
  simp only [enc_str, h2, kA4, h3, guardB_false, cond_false, aCmp_eqS, kCv, aPick_bv, kIy]
  by_cases e : t = s
  · subst e
    have e0 : kGn t (byte0 t) = 0 := by
      obtain ⟨⟨l⟩⟩ := t
      match l, h1 with
      | [b], _ => 
        show (match (List.range 1).find? (fun i => (⟨#[b]⟩ : ByteArray)[i]! == b) with | some i => (i : Int) | none => -1) = 0
        have : ((⟨#[b]⟩ : ByteArray)[0]! == b) = true := by
          have : (⟨#[b]⟩ : ByteArray)[0]! = b := rfl
          rw [this]
          simp
        simp [List.range_succ, this]
    simp only [decide_true, cond_true, kA4, release_iv, e0]
  · simp only [e, decide_false, cond_false, h4, kA4, cond_true, h5]
    simp [kC4]
theorem ok_q68 : kAp Try.prog n_q68 (G2 (fun _ t : ByteArray => decide (t.size = 1)) fun s t => iv (kGn s (byte0 t))) :=
  pureG2 (E1 ok_q24) kBh hb_q68 fun s t h => by
  simp [e_q68, kC4, of_decide_eq_true h]
theorem ok_q67 : kAp Try.prog n_q67 (G2 (fun _ t : ByteArray => decide (t.size = 1)) fun s t => bv (decide (0 ≤ kGn s (byte0 t)))) :=
  pureG2 (E1 ok_q68) kBh hb_q67 fun s t h => by
  simp [e_q67, kC4, of_decide_eq_true h]
def labelB (b : UInt8) : Bool := decide ((b.toNat : Int) = 43) || (decide ((b.toNat : Int) = 45) || (decide ((b.toNat : Int) = 42) || (decide ((b.toNat : Int) = 47) || (decide ((b.toNat : Int) = 61) || (decide ((b.toNat : Int) = 40) || (decide ((b.toNat : Int) = 41) || (decide ((b.toNat : Int) = 46) || (decide ((b.toNat : Int) = 44) ||
  (isLow b || (decide ((48 : Int) ≤ (b.toNat : Int)) && decide ((b.toNat : Int) ≤ 57)))))))))))
def labelSet : ByteArray := ⟨#[48, 49, 50, 51, 52, 53, 54, 55, 56, 57, 43, 45, 42, 47, 61, 40, 41, 46, 44]⟩
theorem label_all : ∀ n : Fin 256, (isLow (UInt8.ofNat n.val) || decide (0 ≤ kGn labelSet (UInt8.ofNat n.val))) = labelB (UInt8.ofNat n.val) := by decide +kernel
theorem label_eq (b : UInt8) : (isLow b || decide (0 ≤ kGn labelSet b)) = labelB b := by
  have := label_all ⟨b.toNat, b.toNat_lt⟩
  simpa using this
def kEe (s : ByteArray) : Bool := decide (s.size = 1) && labelB (byte0 s)
theorem ok_q55 : kAp Try.prog n_q55 (T1 labelB) := kFs (E1 ok_q51) kBh hb_q55 fun b => by
  cases hw : isLow b <;> simp [e_q55, kC4, labelB, hw]
  all_goals cases decide ((48 : Int) ≤ (b.toNat : Int)) <;> simp
  all_goals
    congr 1
    generalize decide ((b.toNat : Int) = 43) = c43
    generalize decide ((b.toNat : Int) = 45) = c45
    generalize decide ((b.toNat : Int) = 42) = c42
    generalize decide ((b.toNat : Int) = 47) = c47
    generalize decide ((b.toNat : Int) = 61) = c61
    generalize decide ((b.toNat : Int) = 40) = c40
    generalize decide ((b.toNat : Int) = 41) = c41
    generalize decide ((b.toNat : Int) = 46) = c46
    generalize decide ((b.toNat : Int) = 44) = c44
    generalize decide ((b.toNat : Int) ≤ 57) = d
    revert c43 c45 c42 c47 c61 c40 c41 c46 c44 d
    decide +kernel
theorem ok_q5 : kAp Try.prog n_q5 (T1 kEe) := kFs (E2 ok_q13 ok_q67) kBh hb_q5 fun s => by
  by_cases h1 : s.size = 1
  · have h5 : kD2 (sv s) (iv 0) = some (bt (byte0 s)) := by
      rw [idx_str, h1, one_byte h1]
      rfl
    have hl := label_eq (byte0 s)
    unfold labelSet at hl
    cases hw : isLow (byte0 s)
    · rw [hw] at hl
      simp at hl
      simp [e_q5, kC4, h5, h1, hw, kEe, hl]
    · rw [hw] at hl
      simp at hl
      simp [e_q5, kC4, h5, h1, hw, kEe, hl]
  · have h2 : ¬ ((s.size : Nat) : Int) = 1 := by omega
    simp [e_q5, h2, h1, kEe]
theorem ok_q46 : kAp Try.prog n_q46 (T1 kEe) := kFs (E1 ok_q55) kBh hb_q46 fun s => by
  by_cases h1 : s.size = 1
  · have h5 : kD2 (sv s) (iv 0) = some (bt (byte0 s)) := by
      rw [idx_str, h1, one_byte h1]
      rfl
    simp [e_q46, kC4, h5, h1, kEe]
  · have h2 : ¬ ((s.size : Nat) : Int) = 1 := by omega
    simp [e_q46, h2, h1, kEe]
def kIn (s : Symbol) : Bool := kEe s.label && kDe s.box
theorem ok_q9 : kAp Try.prog n_q9 (T1 fun s : Symbol => !kIn s) := kFs (E2 ok_q5 ok_q7) kBh hb_q9 fun s => by
  simp [e_q9, kC4, kCl, kA5, cut, kIn]
def digT (k : Nat) (out : ByteArray) : ByteArray := if _h : k = 0 then out else digT (k / 10) (⟨#[(48 + k % 10).toUInt8]⟩ ++ out)
termination_by k
decreasing_by omega
def kE9 (k : Nat) : ByteArray := bif decide (k = 0) then ⟨#[109, 48]⟩ else ⟨#[109]⟩ ++ digT k ⟨#[]⟩
theorem size_one (b : UInt8) (out : ByteArray) : ((⟨#[b]⟩ : ByteArray) ++ out).size = 1 + out.size := by
  rw [ByteArray.size_append]
  rfl
theorem add_str (a b : ByteArray) (h : a.size + b.size ≤ 4294967296) : kAn .add (sv a) (sv b) = some (sv (a ++ b)) := by
  have h0 : kAn .add (sv a) (sv b) = (match (if ((a.size + b.size : Nat) : Int) ≤ 9223372036854775807 then some (Value.string (a ++ b)) else none) with | some v => some (AV.sc v) | none => none) := rfl
  rw [h0, if_pos (by omega)]
  rfl
def mrow : List Bool → Nat → List AV
  | [], _ => []
  | b :: ks, k => (bif b then sv (kE9 k) else iv (k : Nat)) :: mrow ks (k + 1)
def mrows (ks : List Bool) : Nat → Nat → List (List AV)
  | _, 0 => []
  | k, m + 1 => mrow ks k :: mrows ks (k + ks.length) m
theorem set_same {h : kA6} {o : Nat} {x : AObj} (ho : h[o]? = some x) : h.set o x = h := by
  obtain ⟨hlt, e⟩ := List.getElem?_eq_some_iff.1 ho
  rw [← e]
  exact List.set_getElem_self hlt
theorem kE2 {h : kA6} {o n w i : Nat} {P S : List (List AV)} {r : List AV} (ho : h[o]? = some ⟨w, P ++ r :: S⟩) (hi : i = P.length) (hn : P.length + (S.length + 1) = n) : kAa w (.sl o n 0 n) (iv (i : Nat)) h = some (.ptr o n i 0) := by
  have i1 : idx (iv (i : Int)) n = some i := idx_lt (by omega)
  have hl : (P ++ r :: S).length = n := by simp; omega
  simp only [kAa, ho, hl, i1, and_self, if_true, Nat.zero_add]
theorem kDf {h : kA6} {o n w i j : Nat} {P S : List (List AV)} {r : List AV} {v : AV} (ho : h[o]? = some ⟨w, P ++ r :: S⟩) (hi : i = P.length) (hn : P.length + (S.length + 1) = n) (hv : v.cells = [v]) (hf : v.flat = true) (hj : j < r.length) : kAj 1 (.ptr o n i j) v h = some (h.set o ⟨w, P ++ r.set j v :: S⟩) := by
  have hl : (P ++ r :: S).length = n := by simp; omega
  have hg : (P ++ r :: S)[i]? = some r := by simp [hi]
  simp only [kAj, ho, hl, if_true, hg]
  rw [if_pos ⟨by rw [hv]; rfl, by omega, by rw [hv]; simp [hf]⟩]
  congr 3
  rw [hi, hv]
  have hs : kAi r j [v] = r.set j v := by
    unfold kAi
    simp only [List.length_cons, List.length_nil, Nat.zero_add]
    exact (List.set_eq_take_append_cons_drop (l := r) (i := j) (a := v)).symm ▸ (by simp [hj])
  rw [hs]
  simp
def cmpI (a b : Int) : Int := bif decide (a < b) then -1 else bif decide (b < a) then 1 else 0
theorem ok_q4 : kAp Try.prog n_q4 (T1 fun _ : Int => false) := kFs E0 kBh hb_q4 fun a => by
  simp [e_q4]
theorem ok_q1 : kAp Try.prog n_q1 (T2 cmpI) := kHa (E1 ok_q4) kBh hb_q1 fun a b => by
  by_cases w1 : a < b <;> by_cases w2 : b < a <;> simp [e_q1, kC4, cmpI, w1, w2]
theorem lp2_laws_markText (env : Nat → Contract) {y1 y2 y4 y5 y18 y19 : AV} : ∀ (k : Nat) (out : ByteArray) (h : kA6), k ≤ 8589934592 → k + out.size ≤ 4000000000 →
    ((kA0 (kBx hm0_q36 xm0_q36 (lb0_q36 env) [iv (k : Nat), y1, y2, sv out, y4, y5, .top, .top, .top, .top, .top, .top, .top, .top, .top, .top, .top, .top, y18, y19] h) fun r => lk0_q36 env r.1 r.2.1 r.2.2).map Prod.fst) = some (sv (⟨#[109]⟩ ++ digT k out)) := by
  intro k out
  induction k, out using digT.induct with
  | case1 out =>
    intro h h1 h2
    rw [kBx.eq_1, digT]
    have hs : (⟨#[109]⟩ : ByteArray).size = 1 := rfl
    have ha := add_str ⟨#[109]⟩ out (by omega)
    simp [e_lb0_q36, restr, e_lk0x0_q36, ha]
  | case2 k out hk ih =>
    intro h h1 h2
    have ih' := fun h => ih h (by omega) (by rw [size_one]; omega)
    have p : (0 : Int) < (k : Int) := by omega
    have a1 : (k : Int).tmod 10 = ((k % 10 : Nat) : Int) := by
      have := Int.ofNat_tmod k 10
      exact this.symm
    have a2 : wr (48 + ((k % 10 : Nat) : Int)) = ((48 + k % 10 : Nat) : Int) := by rw [kD1 (by omega) (by omega)]; omega
    have a3 : kHn .u8 (iv ((48 + k % 10 : Nat) : Int)) = some (bt (48 + k % 10).toUInt8) := by
      have h0 : kHn .u8 (iv ((48 + k % 10 : Nat) : Int)) = some (.sc (.int .u8 (IntKind.u8.wrap ((48 + k % 10 : Nat) : Int)))) := rfl
      rw [h0]
      unfold bt
      congr 3
    have a4 : (k : Int).tdiv 10 = ((k / 10 : Nat) : Int) := (Int.ofNat_tdiv k 10).symm
    have a5 : wr ((k / 10 : Nat) : Int) = ((k / 10 : Nat) : Int) := kD1 (by omega) (by omega)
    have a6 : ∀ b : UInt8, ∀ h : kA6, kBb [.sc (.int .u8 0)] 1 [(0, bt b)] h = some (.sl h.length 1 0 1, h ++ [⟨1, [[bt b]]⟩]) := fun b h => rfl
    have a7 : ∀ b : UInt8, ∀ h : kA6, kFe (.sl h.length 1 0 1) (h ++ [⟨1, [[bt b]]⟩]) = some (sv ⟨#[b]⟩) := by
      intro b h
      have h0 : aSrc false 1 (.sl h.length 1 0 1) (h ++ [⟨1, [[bt b]]⟩]) = some [[bt b]] := by
        simp [aSrc]
      unfold kFe
      rw [h0]
      have h1 : kGh [[bt b]] = some [b] := by
        show (match kGh [] with | some l => some (((b.toNat : Int)).toNat.toUInt8 :: l) | none => none) = _
        simp [kGh]
      show (match kGh [[bt b]] with | some l => some (AV.sc (Value.string ⟨l.toArray⟩)) | none => none) = _
      rw [h1]
      rfl
    have a8 := add_str ⟨#[(48 + k % 10).toUInt8]⟩ out (by have : (⟨#[(48 + k % 10).toUInt8]⟩ : ByteArray).size = 1 := rfl; omega)
    rw [kBx.eq_1, digT, dif_neg hk]
    simp only [e_lb0_q36, aBin_gtr, kA4, kIy, p, decide_true, cond_true, aBin_rem _ 10 (by decide), a1, kAd, a2, a3, a6, kCv, a7, a8, aBin_quo _ 10 (by decide), a4, a5, restr, cond_false]
    exact ih' _
theorem okB_laws_markText : kAp Try.prog n_q36 (G1 (fun k : Int => decide (0 ≤ k) && decide (k ≤ 100000000)) fun k => sv (kE9 k.toNat)) :=
  pureG1 E0 kBh hb_q36 fun k h => by
  simp at h
  obtain ⟨m, rfl⟩ := Int.eq_ofNat_of_zero_le h.1
  refine plain_of rfl ?_
  by_cases hz : m = 0
  · subst hz
    simp [e_q36, kE9]
  · have hz' : ¬ ((m : Nat) : Int) ≤ 0 := by omega
    have hs : (⟨#[]⟩ : ByteArray).size = 0 := rfl
    have L := fun env {y1 y2 y4 y5 y18 y19} h => @lp2_laws_markText env y1 y2 y4 y5 y18 y19 m ⟨#[]⟩ h (by omega) (by omega)
    rw [e_q36]
    simp only [enc_int, aBin_leq, kA4, kIy, hz', decide_false, cond_false, L, Int.toNat_natCast, kE9, hz]
theorem lp_q35 (env : Nat → Contract) (he : env n_q36 = .pure (G1 (fun k : Int => decide (0 ≤ k) && decide (k ≤ 100000000)) fun k => sv (kE9 k.toNat))) {y2 y3 y4 y52 : AV} (o n : Nat) : ∀ (S P : List (List AV)) (k i : Nat) (h : kA6), i = P.length → P.length + S.length = n → n ≤ 4294967296 → (∀ r ∈ S, r.length = 5) → k + 5 * S.length ≤ 100000000 → h[o]? = some ⟨5, P ++ S⟩ →
    (kA0 (kBx hm0_q35 xm0_q35 (lb0_q35 env) ((.sl o n 0 n) :: (iv (k : Nat)) :: y2 :: y3 :: y4 :: (iv (i : Nat)) :: .top :: .top :: .top :: .top :: .top :: .top :: .top :: .top :: .top :: .top :: .top :: .top :: .top :: .top :: .top :: .top :: .top :: .top :: .top :: .top :: .top :: .top :: .top :: .top :: .top :: .top :: .top :: .top :: .top :: .top :: .top :: .top :: .top :: .top :: .top :: .top :: .top :: .top :: .top :: .top :: .top :: .top :: .top :: .top :: .top :: .top :: y52 :: []) h) fun r => lk0_q35 env r.1 r.2.1 r.2.2) = some (iv ((k + 5 * S.length : Nat) : Int), h.set o ⟨5, P ++ mrows [true, false, false, false, false] k S.length⟩) := by
  intro S
  induction S with
  | nil =>
    intro P k i h hi hl hn hr hk ho
    have : ¬ i < n := by simp at hl; omega
    have hs := set_same ho
    simp at hs
    rw [kBx.eq_1]
    simp [e_lb0_q35, restr, e_lk0x0_q35, this, mrows, hs]
  | cons r S ih =>
    intro P k i h hi hl hn hr hk ho
    have hl' : P.length + (S.length + 1) = n := by simpa using hl
    simp only [List.length_cons] at hk
    have hlt : i < n := by omega
    have hrl := hr r (by simp)
    obtain ⟨c0, c1, c2, c3, c4, rfl⟩ : ∃ c0 c1 c2 c3 c4, r = [c0, c1, c2, c3, c4] := by
      match r, hrl with
      | [c0, c1, c2, c3, c4], _ => exact ⟨c0, c1, c2, c3, c4, rfl⟩
    have olt := (List.getElem?_eq_some_iff.1 ho).1
    have a0 := kE2 (w := 5) (r := [c0, c1, c2, c3, c4]) ho hi hl'
    have s0 := kDf (j := 0) (v := sv (kE9 k)) ho hi hl' rfl rfl (by simp)
    simp only [List.set_cons_zero, List.set_cons_succ, List.set_set] at s0
    have g0 : (h.set o ⟨5, P ++ [(sv (kE9 k)), c1, c2, c3, c4] :: S⟩)[o]? = some ⟨5, P ++ [(sv (kE9 k)), c1, c2, c3, c4] :: S⟩ := by simp [olt]
    have w0 : wr ((k : Int) + 1) = ((k + 1 : Nat) : Int) := by rw [kD1 (by omega) (by omega)]; omega
    have t0 : (0 ≤ (k : Int)) = True := eq_true (by omega)
    have u0 : ((k : Int) ≤ 100000000) = True := eq_true (by omega)
    have q0 : ∀ h, kAt (env n_q36) [iv (k : Int)] h = some (sv (kE9 k), h) := fun h => by
      rw [he]
      simp [-Int.natCast_add, t0, u0]
    have a1 := kE2 (w := 5) (r := [(sv (kE9 k)), c1, c2, c3, c4]) g0 hi hl'
    have s1 := kDf (j := 1) (v := iv ((k + 1 : Nat) : Int)) g0 hi hl' rfl rfl (by simp)
    simp only [List.set_cons_zero, List.set_cons_succ, List.set_set] at s1
    have g1 : (h.set o ⟨5, P ++ [(sv (kE9 k)), (iv ((k + 1 : Nat) : Int)), c2, c3, c4] :: S⟩)[o]? = some ⟨5, P ++ [(sv (kE9 k)), (iv ((k + 1 : Nat) : Int)), c2, c3, c4] :: S⟩ := by simp [olt]
    have w1 : wr (((k + 1 : Nat) : Int) + 1) = ((k + 2 : Nat) : Int) := by rw [kD1 (by omega) (by omega)]; omega
    have a2 := kE2 (w := 5) (r := [(sv (kE9 k)), (iv ((k + 1 : Nat) : Int)), c2, c3, c4]) g1 hi hl'
    have s2 := kDf (j := 2) (v := iv ((k + 2 : Nat) : Int)) g1 hi hl' rfl rfl (by simp)
    simp only [List.set_cons_zero, List.set_cons_succ, List.set_set] at s2
    have g2 : (h.set o ⟨5, P ++ [(sv (kE9 k)), (iv ((k + 1 : Nat) : Int)), (iv ((k + 2 : Nat) : Int)), c3, c4] :: S⟩)[o]? = some ⟨5, P ++ [(sv (kE9 k)), (iv ((k + 1 : Nat) : Int)), (iv ((k + 2 : Nat) : Int)), c3, c4] :: S⟩ := by simp [olt]
    have w2 : wr (((k + 2 : Nat) : Int) + 1) = ((k + 3 : Nat) : Int) := by rw [kD1 (by omega) (by omega)]; omega
    have a3 := kE2 (w := 5) (r := [(sv (kE9 k)), (iv ((k + 1 : Nat) : Int)), (iv ((k + 2 : Nat) : Int)), c3, c4]) g2 hi hl'
    have s3 := kDf (j := 3) (v := iv ((k + 3 : Nat) : Int)) g2 hi hl' rfl rfl (by simp)
    simp only [List.set_cons_zero, List.set_cons_succ, List.set_set] at s3
    have g3 : (h.set o ⟨5, P ++ [(sv (kE9 k)), (iv ((k + 1 : Nat) : Int)), (iv ((k + 2 : Nat) : Int)), (iv ((k + 3 : Nat) : Int)), c4] :: S⟩)[o]? = some ⟨5, P ++ [(sv (kE9 k)), (iv ((k + 1 : Nat) : Int)), (iv ((k + 2 : Nat) : Int)), (iv ((k + 3 : Nat) : Int)), c4] :: S⟩ := by simp [olt]
    have w3 : wr (((k + 3 : Nat) : Int) + 1) = ((k + 4 : Nat) : Int) := by rw [kD1 (by omega) (by omega)]; omega
    have a4 := kE2 (w := 5) (r := [(sv (kE9 k)), (iv ((k + 1 : Nat) : Int)), (iv ((k + 2 : Nat) : Int)), (iv ((k + 3 : Nat) : Int)), c4]) g3 hi hl'
    have s4 := kDf (j := 4) (v := iv ((k + 4 : Nat) : Int)) g3 hi hl' rfl rfl (by simp)
    simp only [List.set_cons_zero, List.set_cons_succ, List.set_set] at s4
    have g4 : (h.set o ⟨5, P ++ [(sv (kE9 k)), (iv ((k + 1 : Nat) : Int)), (iv ((k + 2 : Nat) : Int)), (iv ((k + 3 : Nat) : Int)), (iv ((k + 4 : Nat) : Int))] :: S⟩)[o]? = some ⟨5, P ++ [(sv (kE9 k)), (iv ((k + 1 : Nat) : Int)), (iv ((k + 2 : Nat) : Int)), (iv ((k + 3 : Nat) : Int)), (iv ((k + 4 : Nat) : Int))] :: S⟩ := by simp [olt]
    have w4 : wr (((k + 4 : Nat) : Int) + 1) = ((k + 5 : Nat) : Int) := by rw [kD1 (by omega) (by omega)]; omega
    have wi : wr ((i : Int) + 1) = ((i + 1 : Nat) : Int) := by rw [kD1 (by omega) (by omega)]; omega
    have r := ih (P ++ [[(sv (kE9 k)), (iv ((k + 1 : Nat) : Int)), (iv ((k + 2 : Nat) : Int)), (iv ((k + 3 : Nat) : Int)), (iv ((k + 4 : Nat) : Int))]]) (k + 5) (i + 1) (h.set o ⟨5, P ++ [(sv (kE9 k)), (iv ((k + 1 : Nat) : Int)), (iv ((k + 2 : Nat) : Int)), (iv ((k + 3 : Nat) : Int)), (iv ((k + 4 : Nat) : Int))] :: S⟩) (by simp [hi]) (by simp; omega) hn (fun r hr' => hr r (by simp [hr'])) (by omega) (by simp [olt])
    have hlz : ((i : Int) < (n : Nat)) := by omega
    rw [kBx.eq_1]
    simp only [e_lb0_q35, aLenK_sl, kA4, kB8, kIy, hlz, decide_true, cond_true, kHz, Nat.zero_add, a0, s0, w0, q0, kCv, a1, s1, w1, a2, s2, w2, a3, s3, w3, a4, s4, w4, wi, kAd, restr, cond_false]
    rw [r]
    simp only [mrows, mrow, List.length_cons, List.set_set, List.append_assoc, List.singleton_append, cond_true, cond_false, Nat.add_assoc]
    congr 3
    · omega
theorem kHt (env : Nat → Contract) (he : env n_q36 = .pure (G1 (fun k : Int => decide (0 ≤ k) && decide (k ≤ 100000000)) fun k => sv (kE9 k.toNat))) (R : List (List AV)) (o n : Nat) (hn : R.length = n) (hl : n ≤ 4294967296) (hr : ∀ r ∈ R, r.length = 5) (k : Nat) (hk : k + 5 * n ≤ 100000000) (h : kA6) (ho : h[o]? = some ⟨5, R⟩) :
    kAh Try.prog env n_q35 [.sl o n 0 n, iv (k : Nat)] h = some (iv ((k + 5 * n : Nat) : Int), h.set o ⟨5, mrows [true, false, false, false, false] k n⟩) := by
  have L := fun {y2 y3 y4 y52} => @lp_q35 env he y2 y3 y4 y52 o n R [] k 0 h rfl (by simpa using hn) hl hr (by rw [hn]; exact hk) (by simpa using ho)
  rw [hn] at L
  simp [-Int.natCast_add] at L
  simp [-Int.natCast_add, e_q35, L]
noncomputable def ev_q35 : Nat → Contract := kC4 [(n_q36, .pure (G1 (fun k : Int => decide (0 ≤ k) && decide (k ≤ 100000000)) fun k => sv (kE9 k.toNat)))]
theorem kIc : kBz Try.prog ev_q35 := kCq okB_laws_markText E0
def mkSy : Nat → Nat → List Symbol
  | _, 0 => []
  | k, n + 1 => ⟨kE9 k, ⟨((k + 1 : Nat) : Int), ((k + 2 : Nat) : Int), ((k + 3 : Nat) : Int), ((k + 4 : Nat) : Int)⟩⟩ :: mkSy (k + 5) n
theorem mkSy_len : ∀ (n k : Nat), (mkSy k n).length = n
  | 0, _ => rfl
  | n + 1, k => by simp [mkSy, mkSy_len n]
def t_q35 (s : Sl Symbol) (k : Int) : Option (Int × Sl Symbol) := bif decide (0 ≤ k) && decide (k + 5 * ((s.getD []).length : Nat) ≤ 100000000) then some (k + 5 * ((s.getD []).length : Nat), s.map fun l => mkSy k.toNat l.length) else none
theorem mrows_Sy : ∀ (n k : Nat), mrows [true, false, false, false, false] k n = (mkSy k n).map Row.cells
  | 0, _ => rfl
  | n + 1, k => by
    have ih := mrows_Sy n (k + 5)
    show [sv (kE9 k), iv ((k + 1 : Nat) : Int), iv ((k + 1 + 1 : Nat) : Int), iv ((k + 1 + 1 + 1 : Nat) : Int), iv ((k + 1 + 1 + 1 + 1 : Nat) : Int)] :: mrows [true, false, false, false, false] (k + 5) n = [sv (kE9 k), iv ((k + 1 : Nat) : Int), iv ((k + 2 : Nat) : Int), iv ((k + 3 : Nat) : Int), iv ((k + 4 : Nat) : Int)] :: (mkSy (k + 5) n).map Row.cells
    rw [ih]
theorem kIg : MarkOK (kAh Try.prog ev_q35 n_q35) t_q35 := by
  have he : ev_q35 n_q36 = .pure (G1 (fun k : Int => decide (0 ≤ k) && decide (k ≤ 100000000)) fun k => sv (kE9 k.toNat)) := by simp [ev_q35, kC4]
  intro s k r s' h
  unfold t_q35 at h
  cases c : decide (0 ≤ k) && decide (k + 5 * ((s.getD []).length : Nat) ≤ 100000000) with
  | false => rw [c] at h; cases h
  | true =>
    rw [c] at h
    simp only [cond_true, Option.some.injEq, Prod.mk.injEq] at h
    obtain ⟨rfl, rfl⟩ := h
    simp only [Bool.and_eq_true, decide_eq_true_eq] at c
    obtain ⟨m, rfl⟩ := Int.eq_ofNat_of_zero_le c.1
    cases s with
    | none =>
      refine .inl ⟨rfl, rfl, fun h => ?_⟩
      rw [e_q35, kBx.eq_1]
      simp [e_lb0_q35, e_lk0x0_q35, restr]
    | some l =>
      refine .inr ⟨l, mkSy m l.length, rfl, rfl, mkSy_len _ _, fun o h ho => ?_⟩
      have g := kHt ev_q35 he (l.map Row.cells) o l.length (by simp) (by simp only [Option.getD_some] at c; omega) (fun r hr => by
        obtain ⟨a, _, rfl⟩ := List.mem_map.1 hr
        rfl) m (by simp only [Option.getD_some] at c; omega) h ho
      rw [mrows_Sy] at g
      rw [g]
      simp only [Option.getD_some]
      congr 3
def s0_q2 (vals_ : Sl Int) : Int → Option (Sum Int (Sum Unit Int)) := fun w3 =>
  bif decide (w3 < (((vals_.getD []).length : Nat) : Int)) then
    kA0 (kCo (vals_.getD []) w3) fun a13 =>
    bif !decide (a13 = 0) then
      some (.inr (.inr a13))
    else
      some (.inl (wr (w3 + 1)))
  else
    some (.inr (.inl ()))
def t_q2 (vals_ : Sl Int) : Option Int :=
  kA0 (kBq (s0_q2 vals_) 0) fun qq22 => match qq22 with
  | (.inl _) =>
      some 0
  | (.inr q10) =>
      some q10
theorem tl0_q2 (env : Nat → Contract) {B : Base}  (vals_ : Sl Int)  {st : Int} {tm : TM} {h : kA6} (R : (fun (st : Int) tm h1 => match st with | w3 => tm = [Sl.enc vals_, und, .top, iv 0, und, .top, Sl.enc vals_, iv (((vals_.getD []).length : Nat) : Int), iv w3, .top, .top, .top, .top, .top, .top, .top, .top, und] ∧ Hold B h1 []) st tm h) : Sim (kBx hm0_q2 xm0_q2 (lb0_q2 env) tm h) (kBq (s0_q2 vals_) st) (fun (q : Sum Unit Int) (r : Res) => match q with | .inl _ => ∃ (z6 : AV) (z7 : AV) (h4 : kA6), r = (.exit 0, [Sl.enc vals_, und, z6, iv 0, und, z7, Sl.enc vals_, iv (((vals_.getD []).length : Nat) : Int), .top, .top, .top, .top, .top, .top, .top, .top, .top, und], h4) ∧ Hold B h4 [] | .inr q10 => ∃ (q11 : Int) (h8 : kA6), r = (.ret, [Sl.enc vals_, und, iv q10, iv 0, und, iv q11, Sl.enc vals_, iv (((vals_.getD []).length : Nat) : Int), .top, .top, .top, .top, .top, .top, .top, .top, .top, und], h8) ∧ Hold B h8 []) := by
  refine kCe (Rel := fun (st : Int) tm h1 => match st with | w3 => tm = [Sl.enc vals_, und, .top, iv 0, und, .top, Sl.enc vals_, iv (((vals_.getD []).length : Nat) : Int), iv w3, .top, .top, .top, .top, .top, .top, .top, .top, und] ∧ Hold B h1 []) (fun w3 tm h1 R => ?_) R
  obtain ⟨rfl, O2⟩ := R
  rw [e_lb0_q2]
  unfold s0_q2
  dsimp only
  refine kA1 (v := bv (decide (w3 < (((vals_.getD []).length : Nat) : Int)))) (kB8 _ _) ?_
  refine kAc (fun c12 => ?_) (fun c12 => ?_)
  · refine kAo (Tab.enc h1 vals_) (fun m14 a13 hi15 hm16 => ?_)
    refine kA1 (v := iv a13) ((Tab.enc h1 vals_).ld hm16 false 1 0) ?_
    refine kA1 (v := bv (!decide (a13 = 0))) (kCi _ _) ?_
    refine kAc (fun c17 => ?_) (fun c17 => ?_)
    · exact kA8 ⟨nofun, _, _, rfl, O2⟩
    · refine kA1 (v := iv (wr (w3 + 1))) (kAd _ _) ?_
      exact kA8 ⟨rfl, rfl, O2⟩
  · exact kA8 ⟨nofun, _, _, _, rfl, O2⟩
theorem ts_q2 (env : Nat → Contract)  (vals_ : Sl Int) : Sim (kAh Try.prog env n_q2 [Sl.enc vals_] []) (t_q2 vals_) fun c p => release p.2 depth p.1 = some ((fun c : Int => enc c) c) := by
  have O := Hold.nil []
  generalize hB : (⟨[], []⟩ : Base) = B at O
  clear hB
  rw [e_q2]
  unfold t_q2
  refine kA1 (v := iv (((vals_.getD []).length : Nat) : Int)) (Tab.enc [] vals_).len ?_
  refine kCd ((tl0_q2 env vals_) ⟨rfl, O⟩) (fun qq22 r hq => ?_)
  rcases qq22 with _ | q10
  · obtain ⟨z6, z7, h4, rfl, O5⟩ := hq
    rw [e_lk0x0_q2]
    exact kA8 (kA7 (by rfl) _)
  · obtain ⟨q11, h8, rfl, O9⟩ := hq
    rw [e_lk0r_q2]
    exact kA8 (kA7 (by rfl) _)
theorem tt_q2 : kAp Try.prog n_q2 (C1 (fun c : Int => enc c) t_q2) := pureC1 E0 kBh hb_q2 fun vals_ => ts_q2 _  vals_
def t_q39 (a_ : Symbol) (left_ : Int) : Option Int :=
  bif decide ((wr (left_ - (a_.label.size : Int))) < 0) then
    some (-1)
  else
    some (wr (left_ - (a_.label.size : Int)))
theorem ts_q39 (env : Nat → Contract)  (a_ : Symbol) (left_ : Int) : Sim (kAh Try.prog env n_q39 [AV.agg [sv a_.label, iv a_.box.x1, iv a_.box.y1, iv a_.box.x2, iv a_.box.y2], iv left_] []) (t_q39 a_ left_) fun c p => release p.2 depth p.1 = some ((fun c : Int => enc c) c) := by
  have O := Hold.nil []
  generalize hB : (⟨[], []⟩ : Base) = B at O
  clear hB
  rw [e_q39]
  unfold t_q39
  refine kBd O (cs := [sv a_.label, iv a_.box.x1, iv a_.box.y1, iv a_.box.x2, iv a_.box.y2]) (by first | rfl | simp) (fun o1 h2 O3 => ?_)
  replace O3 : Hold B h2 [(AV.ptr o1 1 0 0, .pt 5 [sv a_.label, iv a_.box.x1, iv a_.box.y1, iv a_.box.x2, iv a_.box.y2])] := O3
  refine kA1 (v := AV.ptr o1 1 0 0) rfl ?_
  refine kA1 (v := sv a_.label) (O3.ld 0 rfl false 1 0) ?_
  refine kA1 (v := iv (a_.label.size : Int)) rfl ?_
  refine kA1 (v := iv (wr (left_ - (a_.label.size : Int)))) (kB2 _ _) ?_
  refine kA1 (v := bv (decide ((wr (left_ - (a_.label.size : Int))) < 0))) (kB8 _ _) ?_
  refine kAc (fun c5 => ?_) (fun c5 => ?_)
  · exact kA8 (kA7 (by rfl) _)
  · exact kA8 (kA7 (by rfl) _)
theorem tt_q39 : kAp Try.prog n_q39 (C2 (fun c : Int => enc c) t_q39) := kGo E0 kBh hb_q39 fun a_ left_ => ts_q39 _  a_ left_
def s0_q40 (a_ : Sl Symbol) : (Int × Int) → Option (Sum (Int × Int) (Sum Int Int)) := fun (w4, w5) =>
  bif decide (w5 < (((a_.getD []).length : Nat) : Int)) then
    kA0 (kCo (a_.getD []) w5) fun a17 =>
    kA0 (t_q39 a17 w4) fun c21 =>
    bif decide (c21 < 0) then
      some (.inr (.inr (-1)))
    else
      some (.inl (c21, wr (w5 + 1)))
  else
    some (.inr (.inl w4))
def t_q40 (a_ : Sl Symbol) (left_ : Int) : Option Int :=
  bif decide ((wr (left_ - (((a_.getD []).length : Nat) : Int))) < 0) then
    some (-1)
  else
    kA0 (kBq (s0_q40 a_) (wr (left_ - (((a_.getD []).length : Nat) : Int)), 0)) fun qq27 => match qq27 with
    | (.inl q8) =>
        some q8
    | (.inr q14) =>
        some q14
theorem tl0_q40 (env : Nat → Contract) {B : Base} (he_q39 : env n_q39 = .pure (C2 (fun c : Int => enc c) t_q39)) (a_ : Sl Symbol) (left_ : Int)  {st : Int × Int} {tm : TM} {h : kA6} (R : (fun (st : Int × Int) tm h2 => match st with | (w4, w5) => tm = [Sl.enc a_, iv w4, und, und, .top, iv w5, iv left_, Sl.enc a_, iv (((a_.getD []).length : Nat) : Int), iv (wr (left_ - (((a_.getD []).length : Nat) : Int))), iv (wr (left_ - (((a_.getD []).length : Nat) : Int))), bv (decide ((wr (left_ - (((a_.getD []).length : Nat) : Int))) < 0)), .top, .top, .top, .top, .top, .top, .top, .top, .top, .top, .top, .top, .top, .top, und] ∧ Hold B h2 []) st tm h) : Sim (kBx hm0_q40 xm0_q40 (lb0_q40 env) tm h) (kBq (s0_q40 a_) st) (fun (q : Sum Int Int) (r : Res) => match q with | .inl q8 => ∃ (q10 : Int) (z9 : AV) (h6 : kA6), r = (.exit 0, [Sl.enc a_, iv q8, und, und, z9, iv q10, iv left_, Sl.enc a_, iv (((a_.getD []).length : Nat) : Int), iv (wr (left_ - (((a_.getD []).length : Nat) : Int))), iv (wr (left_ - (((a_.getD []).length : Nat) : Int))), bv (decide ((wr (left_ - (((a_.getD []).length : Nat) : Int))) < 0)), .top, .top, .top, .top, .top, .top, .top, .top, .top, .top, .top, .top, .top, .top, und], h6) ∧ Hold B h6 [] | .inr q14 => ∃ (q13 : Int) (q15 : Int) (h11 : kA6), r = (.ret, [Sl.enc a_, iv q13, und, und, iv q14, iv q15, iv left_, Sl.enc a_, iv (((a_.getD []).length : Nat) : Int), iv (wr (left_ - (((a_.getD []).length : Nat) : Int))), iv (wr (left_ - (((a_.getD []).length : Nat) : Int))), bv (decide ((wr (left_ - (((a_.getD []).length : Nat) : Int))) < 0)), .top, .top, .top, .top, .top, .top, .top, .top, .top, .top, .top, .top, .top, .top, und], h11) ∧ Hold B h11 []) := by
  refine kCe (Rel := fun (st : Int × Int) tm h2 => match st with | (w4, w5) => tm = [Sl.enc a_, iv w4, und, und, .top, iv w5, iv left_, Sl.enc a_, iv (((a_.getD []).length : Nat) : Int), iv (wr (left_ - (((a_.getD []).length : Nat) : Int))), iv (wr (left_ - (((a_.getD []).length : Nat) : Int))), bv (decide ((wr (left_ - (((a_.getD []).length : Nat) : Int))) < 0)), .top, .top, .top, .top, .top, .top, .top, .top, .top, .top, .top, .top, .top, .top, und] ∧ Hold B h2 []) (fun st tm h2 R => ?_) R
  obtain ⟨w4, w5⟩ := st
  obtain ⟨rfl, O3⟩ := R
  rw [e_lb0_q40]
  unfold s0_q40
  dsimp only
  refine kA1 (v := iv (((a_.getD []).length : Nat) : Int)) (Tab.enc h2 a_).len ?_
  refine kA1 (v := bv (decide (w5 < (((a_.getD []).length : Nat) : Int)))) (kB8 _ _) ?_
  refine kAc (fun c16 => ?_) (fun c16 => ?_)
  · refine kAo (Tab.enc h2 a_) (fun m18 a17 hi19 hm20 => ?_)
    refine kA1 (v := AV.agg [sv a17.label, iv a17.box.x1, iv a17.box.y1, iv a17.box.x2, iv a17.box.y2]) ((Tab.enc h2 a_).ld hm20 true 5 0) ?_
    refine kD0 he_q39 (kAf _ a17 rfl) (kAm _ _) (fun c21 => ?_)
    refine kB4 (kAe (by rfl) _ _) ?_
    refine kA1 (v := bv (decide (c21 < 0))) (kB8 _ _) ?_
    refine kAc (fun c22 => ?_) (fun c22 => ?_)
    · exact kA8 ⟨nofun, _, _, _, rfl, O3⟩
    · refine kA1 (v := iv (wr (w5 + 1))) (kAd _ _) ?_
      exact kA8 ⟨rfl, rfl, O3⟩
  · exact kA8 ⟨nofun, _, _, _, rfl, O3⟩
theorem ts_q40 (env : Nat → Contract) (he_q39 : env n_q39 = .pure (C2 (fun c : Int => enc c) t_q39)) (a_ : Sl Symbol) (left_ : Int) : Sim (kAh Try.prog env n_q40 [Sl.enc a_, iv left_] []) (t_q40 a_ left_) fun c p => release p.2 depth p.1 = some ((fun c : Int => enc c) c) := by
  have O := Hold.nil []
  generalize hB : (⟨[], []⟩ : Base) = B at O
  clear hB
  rw [e_q40]
  unfold t_q40
  refine kA1 (v := iv (((a_.getD []).length : Nat) : Int)) (Tab.enc [] a_).len ?_
  refine kA1 (v := iv (wr (left_ - (((a_.getD []).length : Nat) : Int)))) (kB2 _ _) ?_
  refine kA1 (v := bv (decide ((wr (left_ - (((a_.getD []).length : Nat) : Int))) < 0))) (kB8 _ _) ?_
  refine kAc (fun c1 => ?_) (fun c1 => ?_)
  · exact kA8 (kA7 (by rfl) _)
  · refine kCd ((tl0_q40 env he_q39 a_ left_) ⟨rfl, O⟩) (fun qq27 r hq => ?_)
    rcases qq27 with q8 | q14
    · obtain ⟨q10, z9, h6, rfl, O7⟩ := hq
      rw [e_lk0x0_q40]
      exact kA8 (kA7 (by rfl) _)
    · obtain ⟨q13, q15, h11, rfl, O12⟩ := hq
      rw [e_lk0r_q40]
      exact kA8 (kA7 (by rfl) _)
theorem tt_q40 : kAp Try.prog n_q40 (C2 (fun c : Int => enc c) t_q40) := kGo (kCq tt_q39 E0) kBh hb_q40 fun a_ left_ => ts_q40 _ (by simp [kC4]) a_ left_
def s0_q43 (a_ : Sl Symbol) : ((Sl Symbol) × Int) → Option (Sum ((Sl Symbol) × Int) (Sl Symbol)) := fun (w6, w9) =>
  bif decide (w9 < (((a_.getD []).length : Nat) : Int)) then
    kA0 (kCo (a_.getD []) w9) fun a15 =>
    kA0 (some ((fun b : Symbol => b) a15)) fun c19 =>
    kA0 (kCo (w6.getD []) w9) fun a20 =>
    some (.inl ((kB1 w6 w9 c19), wr (w9 + 1)))
  else
    some (.inr w6)
def t_q43 (a_ : Sl Symbol) : Option (Sl Symbol) :=
  kA0 (makeO (⟨(⟨#[]⟩ : ByteArray), ⟨0, 0, 0, 0⟩⟩ : Symbol) (((a_.getD []).length : Nat) : Int)) fun l5 =>
  kA0 (kBq (s0_q43 a_) ((some l5), 0)) fun q12 =>
  some q12
theorem tl0_q43 (env : Nat → Contract) {B : Base} (he_q42 : env n_q42 = .pure (T1 (fun b : Symbol => b))) (a_ : Sl Symbol) (x1 : AV)  {st : (Sl Symbol) × Int} {tm : TM} {h : kA6} (R : (fun (st : (Sl Symbol) × Int) tm h7 => match st with | (w6, w9) => tm = [Sl.enc a_, und, kBu, x1, iv w9, Sl.enc a_, iv (((a_.getD []).length : Nat) : Int), x1, .top, .top, .top, .top, .top, .top, .top, .top, .top, .top, .top, .top, .top, .top, und] ∧ Hold B h7 [(x1, obS (w6 : Sl Symbol))]) st tm h) : Sim (kBx hm0_q43 xm0_q43 (lb0_q43 env) tm h) (kBq (s0_q43 a_) st) (fun (q : Sl Symbol) (r : Res) => match q with | q12 => ∃ (q13 : Int) (h10 : kA6), r = (.exit 0, [Sl.enc a_, und, kBu, x1, iv q13, Sl.enc a_, iv (((a_.getD []).length : Nat) : Int), x1, .top, .top, .top, .top, .top, .top, .top, .top, .top, .top, .top, .top, .top, .top, und], h10) ∧ Hold B h10 [(x1, obS (q12 : Sl Symbol))]) := by
  refine kCe (Rel := fun (st : (Sl Symbol) × Int) tm h7 => match st with | (w6, w9) => tm = [Sl.enc a_, und, kBu, x1, iv w9, Sl.enc a_, iv (((a_.getD []).length : Nat) : Int), x1, .top, .top, .top, .top, .top, .top, .top, .top, .top, .top, .top, .top, .top, .top, und] ∧ Hold B h7 [(x1, obS (w6 : Sl Symbol))]) (fun st tm h7 R => ?_) R
  obtain ⟨w6, w9⟩ := st
  obtain ⟨rfl, O8⟩ := R
  rw [e_lb0_q43]
  unfold s0_q43
  dsimp only
  refine kA1 (v := iv (((a_.getD []).length : Nat) : Int)) (Tab.enc h7 a_).len ?_
  refine kA1 (v := bv (decide (w9 < (((a_.getD []).length : Nat) : Int)))) (kB8 _ _) ?_
  refine kAc (fun c14 => ?_) (fun c14 => ?_)
  · refine kAo (Tab.enc h7 a_) (fun m16 a15 hi17 hm18 => ?_)
    refine kA1 (v := AV.agg [sv a15.label, iv a15.box.x1, iv a15.box.y1, iv a15.box.x2, iv a15.box.y2]) ((Tab.enc h7 a_).ld hm18 true 5 0) ?_
    refine sim_callV1 (t := (fun b : Symbol => b)) he_q42 (kAf _ a15 rfl) (fun c19 => ?_)
    refine kAo (O8.tab (A := Symbol) (s := w6) 0 rfl) (fun m21 a20 hi22 hm23 => ?_)
    refine kB6 (A := Symbol) O8 0 c19 rfl hi22 hm23 rfl (by simp) (by first | rfl | simp) (by first | rfl | simp [kAi]) (fun h24 O25 => ?_)
    replace O25 : Hold B h24 [(x1, obS ((kB1 w6 w9 c19) : Sl Symbol))] := O25
    refine kA1 (v := iv (wr (w9 + 1))) (kAd _ _) ?_
    exact kA8 ⟨rfl, rfl, O25⟩
  · exact kA8 ⟨nofun, _, _, rfl, O8⟩
theorem ts_q43 (env : Nat → Contract) (he_q42 : env n_q42 = .pure (T1 (fun b : Symbol => b))) (a_ : Sl Symbol) : Sim (kAh Try.prog env n_q43 [Sl.enc a_] []) (t_q43 a_) fun c p => release p.2 depth p.1 = some ((fun c : (Sl Symbol) => rS c) c) := by
  have O := Hold.nil []
  generalize hB : (⟨[], []⟩ : Base) = B at O
  clear hB
  rw [e_q43]
  unfold t_q43
  refine kA1 (v := iv (((a_.getD []).length : Nat) : Int)) (Tab.enc [] a_).len ?_
  refine kJ3 (A := Symbol) O (⟨(⟨#[]⟩ : ByteArray), ⟨0, 0, 0, 0⟩⟩ : Symbol) rfl (by decide) (fun l5 x1 h2 O3 => ?_)
  replace O3 : Hold B h2 [(x1, obS ((some l5) : Sl Symbol))] := O3
  refine kCd ((tl0_q43 env he_q42 a_ x1) ⟨rfl, O3⟩) (fun qq29 r hq => ?_)
  revert hq
  revert qq29
  intro q12 hq
  obtain ⟨q13, h10, rfl, O11⟩ := hq
  rw [e_lk0x0_q43]
  exact kA8 (O11.rel (A := Symbol) (s := q12) 0 rfl)
theorem tt_q43 : kAp Try.prog n_q43 (C1 (fun c : (Sl Symbol) => rS c) t_q43) := pureC1 (kCq ok_q42 E0) kBh hb_q43 fun a_ => ts_q43 _ (by simp [kC4]) a_
def s0_q56 (list_ : Sl Symbol) : Int → Option (Sum Int (Sum Unit Bool)) := fun w3 =>
  bif decide (w3 < (((list_.getD []).length : Nat) : Int)) then
    kA0 (kCo (list_.getD []) w3) fun a13 =>
    kA0 (some (kEe a13.label)) fun c17 =>
    kA0 (bif !c17 then some false else (kA0 (kCo (list_.getD []) w3) fun a19 => kA0 (some (kDe a19.box)) fun c23 => some (!c23))) fun c24 =>
    bif (bif !c17 then true else c24) then
      some (.inr (.inr false))
    else
      some (.inl (wr (w3 + 1)))
  else
    some (.inr (.inl ()))
def t_q56 (list_ : Sl Symbol) : Option Bool :=
  kA0 (kBq (s0_q56 list_) 0) fun qq30 => match qq30 with
  | (.inl _) =>
      some (decide ((((list_.getD []).length : Nat) : Int) ≤ 8))
  | (.inr q10) =>
      some q10
theorem tl0_q56 (env : Nat → Contract) {B : Base} (he_q46 : env n_q46 = .pure (T1 kEe)) (he_q52 : env n_q52 = .pure (T1 kDe)) (list_ : Sl Symbol)  {st : Int} {tm : TM} {h : kA6} (R : (fun (st : Int) tm h1 => match st with | w3 => tm = [Sl.enc list_, und, .top, iv w3, .top, .top, .top, .top, .top, .top, .top, .top, .top, .top, .top, .top, .top, .top, .top, .top, .top, .top, .top, .top, .top, .top, und, und, und] ∧ Hold B h1 []) st tm h) : Sim (kBx hm0_q56 xm0_q56 (lb0_q56 env) tm h) (kBq (s0_q56 list_) st) (fun (q : Sum Unit Bool) (r : Res) => match q with | .inl _ => ∃ (q7 : Int) (z6 : AV) (h4 : kA6), r = (.exit 0, [Sl.enc list_, und, z6, iv q7, .top, .top, .top, .top, .top, .top, .top, .top, .top, .top, .top, .top, .top, .top, .top, .top, .top, .top, .top, .top, .top, .top, und, und, und], h4) ∧ Hold B h4 [] | .inr q10 => ∃ (q11 : Int) (h8 : kA6), r = (.ret, [Sl.enc list_, und, bv q10, iv q11, .top, .top, .top, .top, .top, .top, .top, .top, .top, .top, .top, .top, .top, .top, .top, .top, .top, .top, .top, .top, .top, .top, und, und, und], h8) ∧ Hold B h8 []) := by
  refine kCe (Rel := fun (st : Int) tm h1 => match st with | w3 => tm = [Sl.enc list_, und, .top, iv w3, .top, .top, .top, .top, .top, .top, .top, .top, .top, .top, .top, .top, .top, .top, .top, .top, .top, .top, .top, .top, .top, .top, und, und, und] ∧ Hold B h1 []) (fun w3 tm h1 R => ?_) R
  obtain ⟨rfl, O2⟩ := R
  rw [e_lb0_q56]
  unfold s0_q56
  dsimp only
  refine kA1 (v := iv (((list_.getD []).length : Nat) : Int)) (Tab.enc h1 list_).len ?_
  refine kA1 (v := bv (decide (w3 < (((list_.getD []).length : Nat) : Int)))) (kB8 _ _) ?_
  refine kAc (fun c12 => ?_) (fun c12 => ?_)
  · refine kAo (Tab.enc h1 list_) (fun m14 a13 hi15 hm16 => ?_)
    refine kA1 (v := elp (Sl.enc list_) m14 0) ((Tab.enc h1 list_).fld _ _ _) ?_
    refine kA1 (v := sv a13.label) ((Tab.enc h1 list_).ld hm16 false 1 0) ?_
    refine sim_callV1 (t := kEe) he_q46 (snapD_str _ _) (fun c17 => ?_)
    refine kA1 (v := bv (!c17)) (kD4 _) ?_
    refine kBr (e := bv) (fun hb18 => ?_) (fun c24 => ?_)
    · refine kAo (Tab.enc h1 list_) (fun m20 a19 hi21 hm22 => ?_)
      refine kA1 (v := elp (Sl.enc list_) m20 1) ((Tab.enc h1 list_).fld _ _ _) ?_
      refine kA1 (v := AV.agg [iv a19.box.x1, iv a19.box.y1, iv a19.box.x2, iv a19.box.y2]) ((Tab.enc h1 list_).ld hm22 true 4 1) ?_
      refine sim_callV1 (t := kDe) he_q52 (kAf _ a19.box rfl) (fun c23 => ?_)
      refine kA1 (v := bv (!c23)) (kD4 _) ?_
      exact kA8 rfl
    · refine kA1 (v := bv (bif !c17 then true else c24)) (kCt _ _ _) ?_
      refine kAc (fun c25 => ?_) (fun c25 => ?_)
      · exact kA8 ⟨nofun, _, _, rfl, O2⟩
      · refine kA1 (v := iv (wr (w3 + 1))) (kAd _ _) ?_
        exact kA8 ⟨rfl, rfl, O2⟩
  · exact kA8 ⟨nofun, _, _, _, rfl, O2⟩
theorem ts_q56 (env : Nat → Contract) (he_q46 : env n_q46 = .pure (T1 kEe)) (he_q52 : env n_q52 = .pure (T1 kDe)) (list_ : Sl Symbol) : Sim (kAh Try.prog env n_q56 [Sl.enc list_] []) (t_q56 list_) fun c p => release p.2 depth p.1 = some ((fun c : Bool => enc c) c) := by
  have O := Hold.nil []
  generalize hB : (⟨[], []⟩ : Base) = B at O
  clear hB
  rw [e_q56]
  unfold t_q56
  refine kCd ((tl0_q56 env he_q46 he_q52 list_) ⟨rfl, O⟩) (fun qq30 r hq => ?_)
  rcases qq30 with _ | q10
  · obtain ⟨q7, z6, h4, rfl, O5⟩ := hq
    rw [e_lk0x0_q56]
    refine kA1 (v := iv (((list_.getD []).length : Nat) : Int)) (Tab.enc h4 list_).len ?_
    refine kA1 (v := bv (decide ((((list_.getD []).length : Nat) : Int) ≤ 8))) (aBin_leq _ _) ?_
    exact kA8 (kA7 (by rfl) _)
  · obtain ⟨q11, h8, rfl, O9⟩ := hq
    rw [e_lk0r_q56]
    exact kA8 (kA7 (by rfl) _)
theorem tt_q56 : kAp Try.prog n_q56 (C1 (fun c : Bool => enc c) t_q56) := pureC1 (kCq ok_q46 (kCq ok_q52 E0)) kBh hb_q56 fun list_ => ts_q56 _ (by simp [kC4]) (by simp [kC4]) list_
def kIt (kind_ : Int) : Option ByteArray :=
  bif decide (kind_ = 2) then
    some (⟨#[45]⟩ : ByteArray)
  else
    bif decide (kind_ = 5) then
      some (⟨#[114]⟩ : ByteArray)
    else
      some (⟨#[]⟩ : ByteArray)
theorem ts_q65 (env : Nat → Contract)  (kind_ : Int) : Sim (kAh Try.prog env n_q65 [iv kind_] []) (kIt kind_) fun c p => release p.2 depth p.1 = some ((fun c : ByteArray => enc c) c) := by
  have O := Hold.nil []
  generalize hB : (⟨[], []⟩ : Base) = B at O
  clear hB
  rw [e_q65]
  unfold kIt
  refine kA1 (v := bv (decide (kind_ = 2))) (kAv _ _) ?_
  refine kAc (fun c1 => ?_) (fun c1 => ?_)
  · exact kA8 (kA7 (by rfl) _)
  · refine kA1 (v := bv (decide (kind_ = 5))) (kAv _ _) ?_
    refine kAc (fun c2 => ?_) (fun c2 => ?_)
    · exact kA8 (kA7 (by rfl) _)
    · exact kA8 (kA7 (by rfl) _)
theorem tt_q65 : kAp Try.prog n_q65 (C1 (fun c : ByteArray => enc c) kIt) := pureC1 E0 kBh hb_q65 fun kind_ => ts_q65 _  kind_
def t_q64 (kind_ : Int) (sign_ : Box) (a_ : Box) (b_ : Box) : Option Bool :=
  bif decide (kind_ = 1) then
    kA0 (some (kAz a_ b_)) fun c14 =>
    some (decide (c14 = 1))
  else
    bif decide (kind_ = 3) then
      kA0 (some (kAz a_ b_)) fun c16 =>
      some (decide (c16 = 4))
    else
      bif decide (kind_ = 4) then
        kA0 (some (kAz a_ b_)) fun c18 =>
        some (decide (c18 = 5))
      else
        bif decide (kind_ = 2) then
          kA0 (some (kAz sign_ a_)) fun c20 =>
          kA0 (bif decide (c20 = 2) then (kA0 (some (kAz sign_ b_)) fun c22 => some (decide (c22 = 3))) else some false) fun c23 =>
          some (bif decide (c20 = 2) then c23 else false)
        else
          kA0 (some (kAz sign_ a_)) fun c24 =>
          some (decide (c24 = 6))
theorem ts_q64 (env : Nat → Contract) (he_q57 : env n_q57 = .pure (T2 kAz)) (kind_ : Int) (sign_ : Box) (a_ : Box) (b_ : Box) : Sim (kAh Try.prog env n_q64 [iv kind_, AV.agg [iv sign_.x1, iv sign_.y1, iv sign_.x2, iv sign_.y2], AV.agg [iv a_.x1, iv a_.y1, iv a_.x2, iv a_.y2], AV.agg [iv b_.x1, iv b_.y1, iv b_.x2, iv b_.y2]] []) (t_q64 kind_ sign_ a_ b_) fun c p => release p.2 depth p.1 = some ((fun c : Bool => enc c) c) := by
  have O := Hold.nil []
  generalize hB : (⟨[], []⟩ : Base) = B at O
  clear hB
  rw [e_q64]
  unfold t_q64
  refine kBd O (cs := [iv sign_.x1, iv sign_.y1, iv sign_.x2, iv sign_.y2]) (by first | rfl | simp) (fun o1 h2 O3 => ?_)
  replace O3 : Hold B h2 [(AV.ptr o1 1 0 0, .pt 4 [iv sign_.x1, iv sign_.y1, iv sign_.x2, iv sign_.y2])] := O3
  refine kBd O3 (cs := [iv a_.x1, iv a_.y1, iv a_.x2, iv a_.y2]) (by first | rfl | simp) (fun o5 h6 O7 => ?_)
  replace O7 : Hold B h6 [(AV.ptr o1 1 0 0, .pt 4 [iv sign_.x1, iv sign_.y1, iv sign_.x2, iv sign_.y2]), (AV.ptr o5 1 0 0, .pt 4 [iv a_.x1, iv a_.y1, iv a_.x2, iv a_.y2])] := O7
  refine kBd O7 (cs := [iv b_.x1, iv b_.y1, iv b_.x2, iv b_.y2]) (by first | rfl | simp) (fun o9 h10 O11 => ?_)
  replace O11 : Hold B h10 [(AV.ptr o1 1 0 0, .pt 4 [iv sign_.x1, iv sign_.y1, iv sign_.x2, iv sign_.y2]), (AV.ptr o5 1 0 0, .pt 4 [iv a_.x1, iv a_.y1, iv a_.x2, iv a_.y2]), (AV.ptr o9 1 0 0, .pt 4 [iv b_.x1, iv b_.y1, iv b_.x2, iv b_.y2])] := O11
  refine kA1 (v := bv (decide (kind_ = 1))) (kAv _ _) ?_
  refine kAc (fun c13 => ?_) (fun c13 => ?_)
  · refine kA1 (v := AV.agg [iv a_.x1, iv a_.y1, iv a_.x2, iv a_.y2]) (O11.ld 1 rfl true 4 0) ?_
    refine kA1 (v := AV.agg [iv b_.x1, iv b_.y1, iv b_.x2, iv b_.y2]) (O11.ld 2 rfl true 4 0) ?_
    refine kDz (t := kAz) he_q57 (kAf _ a_ rfl) (kAf _ b_ rfl) (fun c14 => ?_)
    refine kA1 (v := bv (decide (c14 = 1))) (kAv _ _) ?_
    exact kA8 (kA7 (by rfl) _)
  · refine kA1 (v := bv (decide (kind_ = 3))) (kAv _ _) ?_
    refine kAc (fun c15 => ?_) (fun c15 => ?_)
    · refine kA1 (v := AV.agg [iv a_.x1, iv a_.y1, iv a_.x2, iv a_.y2]) (O11.ld 1 rfl true 4 0) ?_
      refine kA1 (v := AV.agg [iv b_.x1, iv b_.y1, iv b_.x2, iv b_.y2]) (O11.ld 2 rfl true 4 0) ?_
      refine kDz (t := kAz) he_q57 (kAf _ a_ rfl) (kAf _ b_ rfl) (fun c16 => ?_)
      refine kA1 (v := bv (decide (c16 = 4))) (kAv _ _) ?_
      exact kA8 (kA7 (by rfl) _)
    · refine kA1 (v := bv (decide (kind_ = 4))) (kAv _ _) ?_
      refine kAc (fun c17 => ?_) (fun c17 => ?_)
      · refine kA1 (v := AV.agg [iv a_.x1, iv a_.y1, iv a_.x2, iv a_.y2]) (O11.ld 1 rfl true 4 0) ?_
        refine kA1 (v := AV.agg [iv b_.x1, iv b_.y1, iv b_.x2, iv b_.y2]) (O11.ld 2 rfl true 4 0) ?_
        refine kDz (t := kAz) he_q57 (kAf _ a_ rfl) (kAf _ b_ rfl) (fun c18 => ?_)
        refine kA1 (v := bv (decide (c18 = 5))) (kAv _ _) ?_
        exact kA8 (kA7 (by rfl) _)
      · refine kA1 (v := bv (decide (kind_ = 2))) (kAv _ _) ?_
        refine kAc (fun c19 => ?_) (fun c19 => ?_)
        · refine kA1 (v := AV.agg [iv sign_.x1, iv sign_.y1, iv sign_.x2, iv sign_.y2]) (O11.ld 0 rfl true 4 0) ?_
          refine kA1 (v := AV.agg [iv a_.x1, iv a_.y1, iv a_.x2, iv a_.y2]) (O11.ld 1 rfl true 4 0) ?_
          refine kDz (t := kAz) he_q57 (kAf _ sign_ rfl) (kAf _ a_ rfl) (fun c20 => ?_)
          refine kA1 (v := bv (decide (c20 = 2))) (kAv _ _) ?_
          refine sim_guardT (e := bv) (fun hb21 => ?_) (fun c23 => ?_)
          · refine kA1 (v := AV.agg [iv sign_.x1, iv sign_.y1, iv sign_.x2, iv sign_.y2]) (O11.ld 0 rfl true 4 0) ?_
            refine kA1 (v := AV.agg [iv b_.x1, iv b_.y1, iv b_.x2, iv b_.y2]) (O11.ld 2 rfl true 4 0) ?_
            refine kDz (t := kAz) he_q57 (kAf _ sign_ rfl) (kAf _ b_ rfl) (fun c22 => ?_)
            refine kA1 (v := bv (decide (c22 = 3))) (kAv _ _) ?_
            exact kA8 rfl
          · refine kA1 (v := bv (bif decide (c20 = 2) then c23 else false)) (pick_b _ _ _) ?_
            exact kA8 (kA7 (by rfl) _)
        · refine kA1 (v := AV.agg [iv sign_.x1, iv sign_.y1, iv sign_.x2, iv sign_.y2]) (O11.ld 0 rfl true 4 0) ?_
          refine kA1 (v := AV.agg [iv a_.x1, iv a_.y1, iv a_.x2, iv a_.y2]) (O11.ld 1 rfl true 4 0) ?_
          refine kDz (t := kAz) he_q57 (kAf _ sign_ rfl) (kAf _ a_ rfl) (fun c24 => ?_)
          refine kA1 (v := bv (decide (c24 = 6))) (kAv _ _) ?_
          exact kA8 (kA7 (by rfl) _)
theorem tt_q64 : kAp Try.prog n_q64 (C4 (fun c : Bool => enc c) t_q64) := pureC4 (kCq ok_q57 E0) kBh hb_q64 fun kind_ sign_ a_ b_ => ts_q64 _ (by simp [kC4]) kind_ sign_ a_ b_
def t_q66 (kind_ : Int) (sign_ : Box) (a_ : Box) (b_ : Box) : Option Int :=
  bif decide (kind_ = 1) then
    kA0 (some (kFt (wr ((wr ((wr (a_.y1 + a_.y2)) - b_.y1)) - b_.y2)))) fun c14 =>
    kA0 (some ((fun a b : Int => max a b) 0 (wr (b_.x1 - a_.x2)))) fun c15 =>
    some (wr (c14 + c15))
  else
    bif decide (kind_ = 3) then
      kA0 (some (kFt (wr (b_.x1 - a_.x2)))) fun c17 =>
      kA0 (some (kFt (wr (b_.y2 - a_.y1)))) fun c18 =>
      some (wr ((wr (c17 + c18)) + 20))
    else
      bif decide (kind_ = 4) then
        kA0 (some (kFt (wr (b_.x1 - a_.x2)))) fun c20 =>
        kA0 (some (kFt (wr (b_.y1 - a_.y2)))) fun c21 =>
        some (wr ((wr (c20 + c21)) + 20))
      else
        bif decide (kind_ = 2) then
          kA0 (some (kFt (wr ((wr ((wr (a_.x1 + a_.x2)) - sign_.x1)) - sign_.x2)))) fun c23 =>
          kA0 (some (kFt (wr ((wr ((wr (b_.x1 + b_.x2)) - sign_.x1)) - sign_.x2)))) fun c24 =>
          some (wr (c23 + c24))
        else
          some 0
theorem ts_q66 (env : Nat → Contract) (he_q49 : env n_q49 = .pure (T2 (fun a b : Int => max a b))) (he_q54 : env n_q54 = .pure (T1 kFt)) (kind_ : Int) (sign_ : Box) (a_ : Box) (b_ : Box) : Sim (kAh Try.prog env n_q66 [iv kind_, AV.agg [iv sign_.x1, iv sign_.y1, iv sign_.x2, iv sign_.y2], AV.agg [iv a_.x1, iv a_.y1, iv a_.x2, iv a_.y2], AV.agg [iv b_.x1, iv b_.y1, iv b_.x2, iv b_.y2]] []) (t_q66 kind_ sign_ a_ b_) fun c p => release p.2 depth p.1 = some ((fun c : Int => enc c) c) := by
  have O := Hold.nil []
  generalize hB : (⟨[], []⟩ : Base) = B at O
  clear hB
  rw [e_q66]
  unfold t_q66
  refine kBd O (cs := [iv sign_.x1, iv sign_.y1, iv sign_.x2, iv sign_.y2]) (by first | rfl | simp) (fun o1 h2 O3 => ?_)
  replace O3 : Hold B h2 [(AV.ptr o1 1 0 0, .pt 4 [iv sign_.x1, iv sign_.y1, iv sign_.x2, iv sign_.y2])] := O3
  refine kBd O3 (cs := [iv a_.x1, iv a_.y1, iv a_.x2, iv a_.y2]) (by first | rfl | simp) (fun o5 h6 O7 => ?_)
  replace O7 : Hold B h6 [(AV.ptr o1 1 0 0, .pt 4 [iv sign_.x1, iv sign_.y1, iv sign_.x2, iv sign_.y2]), (AV.ptr o5 1 0 0, .pt 4 [iv a_.x1, iv a_.y1, iv a_.x2, iv a_.y2])] := O7
  refine kBd O7 (cs := [iv b_.x1, iv b_.y1, iv b_.x2, iv b_.y2]) (by first | rfl | simp) (fun o9 h10 O11 => ?_)
  replace O11 : Hold B h10 [(AV.ptr o1 1 0 0, .pt 4 [iv sign_.x1, iv sign_.y1, iv sign_.x2, iv sign_.y2]), (AV.ptr o5 1 0 0, .pt 4 [iv a_.x1, iv a_.y1, iv a_.x2, iv a_.y2]), (AV.ptr o9 1 0 0, .pt 4 [iv b_.x1, iv b_.y1, iv b_.x2, iv b_.y2])] := O11
  refine kA1 (v := bv (decide (kind_ = 1))) (kAv _ _) ?_
  refine kAc (fun c13 => ?_) (fun c13 => ?_)
  · refine kA1 (v := AV.ptr o5 1 0 1) rfl ?_
    refine kA1 (v := iv a_.y1) (O11.ld 1 rfl false 1 1) ?_
    refine kA1 (v := AV.ptr o5 1 0 3) rfl ?_
    refine kA1 (v := iv a_.y2) (O11.ld 1 rfl false 1 3) ?_
    refine kA1 (v := iv (wr (a_.y1 + a_.y2))) (kAd _ _) ?_
    refine kA1 (v := AV.ptr o9 1 0 1) rfl ?_
    refine kA1 (v := iv b_.y1) (O11.ld 2 rfl false 1 1) ?_
    refine kA1 (v := iv (wr ((wr (a_.y1 + a_.y2)) - b_.y1))) (kB2 _ _) ?_
    refine kA1 (v := AV.ptr o9 1 0 3) rfl ?_
    refine kA1 (v := iv b_.y2) (O11.ld 2 rfl false 1 3) ?_
    refine kA1 (v := iv (wr ((wr ((wr (a_.y1 + a_.y2)) - b_.y1)) - b_.y2))) (kB2 _ _) ?_
    refine kBw (t := kFt) he_q54 (kAm _ _) (fun c14 => ?_)
    refine kA1 (v := AV.ptr o9 1 0 0) rfl ?_
    refine kA1 (v := iv b_.x1) (O11.ld 2 rfl false 1 0) ?_
    refine kA1 (v := AV.ptr o5 1 0 2) rfl ?_
    refine kA1 (v := iv a_.x2) (O11.ld 1 rfl false 1 2) ?_
    refine kA1 (v := iv (wr (b_.x1 - a_.x2))) (kB2 _ _) ?_
    refine kC2 (t := (fun a b : Int => max a b)) he_q49 (kAm _ _) (kAm _ _) (fun c15 => ?_)
    refine kA1 (v := iv (wr (c14 + c15))) (kAd _ _) ?_
    exact kA8 (kA7 (by rfl) _)
  · refine kA1 (v := bv (decide (kind_ = 3))) (kAv _ _) ?_
    refine kAc (fun c16 => ?_) (fun c16 => ?_)
    · refine kA1 (v := AV.ptr o9 1 0 0) rfl ?_
      refine kA1 (v := iv b_.x1) (O11.ld 2 rfl false 1 0) ?_
      refine kA1 (v := AV.ptr o5 1 0 2) rfl ?_
      refine kA1 (v := iv a_.x2) (O11.ld 1 rfl false 1 2) ?_
      refine kA1 (v := iv (wr (b_.x1 - a_.x2))) (kB2 _ _) ?_
      refine kBw (t := kFt) he_q54 (kAm _ _) (fun c17 => ?_)
      refine kA1 (v := AV.ptr o9 1 0 3) rfl ?_
      refine kA1 (v := iv b_.y2) (O11.ld 2 rfl false 1 3) ?_
      refine kA1 (v := AV.ptr o5 1 0 1) rfl ?_
      refine kA1 (v := iv a_.y1) (O11.ld 1 rfl false 1 1) ?_
      refine kA1 (v := iv (wr (b_.y2 - a_.y1))) (kB2 _ _) ?_
      refine kBw (t := kFt) he_q54 (kAm _ _) (fun c18 => ?_)
      refine kA1 (v := iv (wr (c17 + c18))) (kAd _ _) ?_
      refine kA1 (v := iv (wr ((wr (c17 + c18)) + 20))) (kAd _ _) ?_
      exact kA8 (kA7 (by rfl) _)
    · refine kA1 (v := bv (decide (kind_ = 4))) (kAv _ _) ?_
      refine kAc (fun c19 => ?_) (fun c19 => ?_)
      · refine kA1 (v := AV.ptr o9 1 0 0) rfl ?_
        refine kA1 (v := iv b_.x1) (O11.ld 2 rfl false 1 0) ?_
        refine kA1 (v := AV.ptr o5 1 0 2) rfl ?_
        refine kA1 (v := iv a_.x2) (O11.ld 1 rfl false 1 2) ?_
        refine kA1 (v := iv (wr (b_.x1 - a_.x2))) (kB2 _ _) ?_
        refine kBw (t := kFt) he_q54 (kAm _ _) (fun c20 => ?_)
        refine kA1 (v := AV.ptr o9 1 0 1) rfl ?_
        refine kA1 (v := iv b_.y1) (O11.ld 2 rfl false 1 1) ?_
        refine kA1 (v := AV.ptr o5 1 0 3) rfl ?_
        refine kA1 (v := iv a_.y2) (O11.ld 1 rfl false 1 3) ?_
        refine kA1 (v := iv (wr (b_.y1 - a_.y2))) (kB2 _ _) ?_
        refine kBw (t := kFt) he_q54 (kAm _ _) (fun c21 => ?_)
        refine kA1 (v := iv (wr (c20 + c21))) (kAd _ _) ?_
        refine kA1 (v := iv (wr ((wr (c20 + c21)) + 20))) (kAd _ _) ?_
        exact kA8 (kA7 (by rfl) _)
      · refine kA1 (v := bv (decide (kind_ = 2))) (kAv _ _) ?_
        refine kAc (fun c22 => ?_) (fun c22 => ?_)
        · refine kA1 (v := AV.ptr o5 1 0 0) rfl ?_
          refine kA1 (v := iv a_.x1) (O11.ld 1 rfl false 1 0) ?_
          refine kA1 (v := AV.ptr o5 1 0 2) rfl ?_
          refine kA1 (v := iv a_.x2) (O11.ld 1 rfl false 1 2) ?_
          refine kA1 (v := iv (wr (a_.x1 + a_.x2))) (kAd _ _) ?_
          refine kA1 (v := AV.ptr o1 1 0 0) rfl ?_
          refine kA1 (v := iv sign_.x1) (O11.ld 0 rfl false 1 0) ?_
          refine kA1 (v := iv (wr ((wr (a_.x1 + a_.x2)) - sign_.x1))) (kB2 _ _) ?_
          refine kA1 (v := AV.ptr o1 1 0 2) rfl ?_
          refine kA1 (v := iv sign_.x2) (O11.ld 0 rfl false 1 2) ?_
          refine kA1 (v := iv (wr ((wr ((wr (a_.x1 + a_.x2)) - sign_.x1)) - sign_.x2))) (kB2 _ _) ?_
          refine kBw (t := kFt) he_q54 (kAm _ _) (fun c23 => ?_)
          refine kA1 (v := AV.ptr o9 1 0 0) rfl ?_
          refine kA1 (v := iv b_.x1) (O11.ld 2 rfl false 1 0) ?_
          refine kA1 (v := AV.ptr o9 1 0 2) rfl ?_
          refine kA1 (v := iv b_.x2) (O11.ld 2 rfl false 1 2) ?_
          refine kA1 (v := iv (wr (b_.x1 + b_.x2))) (kAd _ _) ?_
          refine kA1 (v := AV.ptr o1 1 0 0) rfl ?_
          refine kA1 (v := iv sign_.x1) (O11.ld 0 rfl false 1 0) ?_
          refine kA1 (v := iv (wr ((wr (b_.x1 + b_.x2)) - sign_.x1))) (kB2 _ _) ?_
          refine kA1 (v := AV.ptr o1 1 0 2) rfl ?_
          refine kA1 (v := iv sign_.x2) (O11.ld 0 rfl false 1 2) ?_
          refine kA1 (v := iv (wr ((wr ((wr (b_.x1 + b_.x2)) - sign_.x1)) - sign_.x2))) (kB2 _ _) ?_
          refine kBw (t := kFt) he_q54 (kAm _ _) (fun c24 => ?_)
          refine kA1 (v := iv (wr (c23 + c24))) (kAd _ _) ?_
          exact kA8 (kA7 (by rfl) _)
        · exact kA8 (kA7 (by rfl) _)
theorem tt_q66 : kAp Try.prog n_q66 (C4 (fun c : Int => enc c) t_q66) := pureC4 (kCq ok_q49 (kCq ok_q54 E0)) kBh hb_q66 fun kind_ sign_ a_ b_ => ts_q66 _ (by simp [kC4]) (by simp [kC4]) kind_ sign_ a_ b_
def t_q62 (c_ : Chart21) (set_ : Int) (kind_ : Int) (sign_ : Int) (first_ : Int) (rest_ : Int) : Option Chart21 :=
  kA0 (kCo (c_.cells.getD []) first_) fun a1 =>
  kA0 (kCo (c_.cells.getD []) rest_) fun a11 =>
  bif !decide (rest_ = 0) then
    kA0 (kIt kind_) fun c28 =>
    bif !decide (c28 = (⟨#[]⟩ : ByteArray)) then
      kA0 (kCo (c_.list.getD []) sign_) fun a30 =>
      kA0 (bif decide (wr (a1.ways * a11.ways) = 0) then some false else (kA0 (t_q64 kind_ a30.box a1.box a11.box) fun c37 => some (!c37))) fun c38 =>
      bif (bif decide (wr (a1.ways * a11.ways) = 0) then true else c38) then
        some (⟨c_.list, c_.cells⟩ : Chart21)
      else
        kA0 (kCo (c_.cells.getD []) set_) fun a41 =>
        kA0 (t_q66 kind_ a30.box a1.box a11.box) fun c45 =>
        kA0 (bif decide (a41.ways = 0) then some false else (some (decide ((wr ((wr (a1.cost + a11.cost)) + c45)) < a41.cost)))) fun c47 =>
        bif (bif decide (a41.ways = 0) then true else c47) then
          some (⟨c_.list, (kB1 c_.cells set_ (⟨⟨a41.box.x1, a41.box.y1, a41.box.x2, a41.box.y2⟩, wr (a41.ways + (wr (a1.ways * a11.ways))), wr ((wr (a1.cost + a11.cost)) + c45), kind_, sign_, first_, rest_⟩ : Cell21))⟩ : Chart21)
        else
          some (⟨c_.list, (kB1 c_.cells set_ (⟨⟨a41.box.x1, a41.box.y1, a41.box.x2, a41.box.y2⟩, wr (a41.ways + (wr (a1.ways * a11.ways))), a41.cost, a41.kind, a41.sign, a41.first, a41.rest⟩ : Cell21))⟩ : Chart21)
    else
      kA0 (bif decide (wr (a1.ways * a11.ways) = 0) then some false else (kA0 (t_q64 kind_ (⟨0, 0, 0, 0⟩ : Box) a1.box a11.box) fun c66 => some (!c66))) fun c67 =>
      bif (bif decide (wr (a1.ways * a11.ways) = 0) then true else c67) then
        some (⟨c_.list, c_.cells⟩ : Chart21)
      else
        kA0 (kCo (c_.cells.getD []) set_) fun a70 =>
        kA0 (t_q66 kind_ (⟨0, 0, 0, 0⟩ : Box) a1.box a11.box) fun c74 =>
        kA0 (bif decide (a70.ways = 0) then some false else (some (decide ((wr ((wr (a1.cost + a11.cost)) + c74)) < a70.cost)))) fun c76 =>
        bif (bif decide (a70.ways = 0) then true else c76) then
          some (⟨c_.list, (kB1 c_.cells set_ (⟨⟨a70.box.x1, a70.box.y1, a70.box.x2, a70.box.y2⟩, wr (a70.ways + (wr (a1.ways * a11.ways))), wr ((wr (a1.cost + a11.cost)) + c74), kind_, sign_, first_, rest_⟩ : Cell21))⟩ : Chart21)
        else
          some (⟨c_.list, (kB1 c_.cells set_ (⟨⟨a70.box.x1, a70.box.y1, a70.box.x2, a70.box.y2⟩, wr (a70.ways + (wr (a1.ways * a11.ways))), a70.cost, a70.kind, a70.sign, a70.first, a70.rest⟩ : Cell21))⟩ : Chart21)
  else
    kA0 (kIt kind_) fun c100 =>
    bif !decide (c100 = (⟨#[]⟩ : ByteArray)) then
      kA0 (kCo (c_.list.getD []) sign_) fun a102 =>
      kA0 (bif decide (a1.ways = 0) then some false else (kA0 (t_q64 kind_ a102.box a1.box a11.box) fun c109 => some (!c109))) fun c110 =>
      bif (bif decide (a1.ways = 0) then true else c110) then
        some (⟨c_.list, c_.cells⟩ : Chart21)
      else
        kA0 (kCo (c_.cells.getD []) set_) fun a113 =>
        kA0 (t_q66 kind_ a102.box a1.box a11.box) fun c117 =>
        kA0 (bif decide (a113.ways = 0) then some false else (some (decide ((wr ((wr (a1.cost + a11.cost)) + c117)) < a113.cost)))) fun c119 =>
        bif (bif decide (a113.ways = 0) then true else c119) then
          some (⟨c_.list, (kB1 c_.cells set_ (⟨⟨a113.box.x1, a113.box.y1, a113.box.x2, a113.box.y2⟩, wr (a113.ways + a1.ways), wr ((wr (a1.cost + a11.cost)) + c117), kind_, sign_, first_, rest_⟩ : Cell21))⟩ : Chart21)
        else
          some (⟨c_.list, (kB1 c_.cells set_ (⟨⟨a113.box.x1, a113.box.y1, a113.box.x2, a113.box.y2⟩, wr (a113.ways + a1.ways), a113.cost, a113.kind, a113.sign, a113.first, a113.rest⟩ : Cell21))⟩ : Chart21)
    else
      kA0 (bif decide (a1.ways = 0) then some false else (kA0 (t_q64 kind_ (⟨0, 0, 0, 0⟩ : Box) a1.box a11.box) fun c138 => some (!c138))) fun c139 =>
      bif (bif decide (a1.ways = 0) then true else c139) then
        some (⟨c_.list, c_.cells⟩ : Chart21)
      else
        kA0 (kCo (c_.cells.getD []) set_) fun a142 =>
        kA0 (t_q66 kind_ (⟨0, 0, 0, 0⟩ : Box) a1.box a11.box) fun c146 =>
        kA0 (bif decide (a142.ways = 0) then some false else (some (decide ((wr ((wr (a1.cost + a11.cost)) + c146)) < a142.cost)))) fun c148 =>
        bif (bif decide (a142.ways = 0) then true else c148) then
          some (⟨c_.list, (kB1 c_.cells set_ (⟨⟨a142.box.x1, a142.box.y1, a142.box.x2, a142.box.y2⟩, wr (a142.ways + a1.ways), wr ((wr (a1.cost + a11.cost)) + c146), kind_, sign_, first_, rest_⟩ : Cell21))⟩ : Chart21)
        else
          some (⟨c_.list, (kB1 c_.cells set_ (⟨⟨a142.box.x1, a142.box.y1, a142.box.x2, a142.box.y2⟩, wr (a142.ways + a1.ways), a142.cost, a142.kind, a142.sign, a142.first, a142.rest⟩ : Cell21))⟩ : Chart21)
theorem ts_q62 (env : Nat → Contract) (he_q64 : env n_q64 = .pure (C4 (fun c : Bool => enc c) t_q64)) (he_q65 : env n_q65 = .pure (C1 (fun c : ByteArray => enc c) kIt)) (he_q66 : env n_q66 = .pure (C4 (fun c : Int => enc c) t_q66)) {B : Base} {h : kA6} {o_ : Nat} {x_cells_ : AV} (c_ : Chart21) (set_ : Int) (kind_ : Int) (sign_ : Int) (first_ : Int) (rest_ : Int) (O : Hold B h [(AV.ptr o_ 1 0 0, .pt 2 [Sl.enc c_.list, x_cells_]), (x_cells_, obS (c_.cells : Sl Cell21))]) : Sim (kAh Try.prog env kGy [AV.ptr o_ 1 0 0, iv set_, iv kind_, iv sign_, iv first_, iv rest_] h) (t_q62 c_ set_ kind_ sign_ first_ rest_) (fun c p => ∃ x1, p.1 = und ∧ Hold B p.2 ([(AV.ptr o_ 1 0 0, .pt 2 [Sl.enc c.list, x1]), (x1, obS (c.cells : Sl Cell21))])) := by
  rw [e_q62]
  unfold t_q62
  refine kA1 (v := AV.ptr o_ 1 0 0) rfl ?_
  refine kA1 (v := AV.ptr o_ 1 0 1) rfl ?_
  refine kA1 (v := x_cells_) (O.ld 0 rfl false 1 1) ?_
  refine kAo (O.tab (A := Cell21) (s := c_.cells) 1 rfl) (fun m2 a1 hi3 hm4 => ?_)
  refine kA1 (v := AV.agg [iv a1.box.x1, iv a1.box.y1, iv a1.box.x2, iv a1.box.y2, iv a1.ways, iv a1.cost, iv a1.kind, iv a1.sign, iv a1.first, iv a1.rest]) ((O.tab (A := Cell21) (s := c_.cells) 1 rfl).ld hm4 true 10 0) ?_
  refine kBd O (cs := [iv 0, iv 0, iv 0, iv 0, iv 0, iv 0, iv 0, iv 0, iv 0, iv 0]) (by first | rfl | simp) (fun o5 h6 O7 => ?_)
  replace O7 : Hold B h6 [(AV.ptr o_ 1 0 0, .pt 2 [Sl.enc c_.list, x_cells_]), (x_cells_, obS (c_.cells : Sl Cell21)), (AV.ptr o5 1 0 0, .pt 10 [iv 0, iv 0, iv 0, iv 0, iv 0, iv 0, iv 0, iv 0, iv 0, iv 0])] := O7
  refine kAy O7 2 (cs' := [iv a1.box.x1, iv a1.box.y1, iv a1.box.x2, iv a1.box.y2, iv a1.ways, iv a1.cost, iv a1.kind, iv a1.sign, iv a1.first, iv a1.rest]) rfl (by first | rfl | simp) (by simp) (by first | rfl | simp) (by first | rfl | simp [kAi]) (fun h9 O10 => ?_)
  replace O10 : Hold B h9 [(AV.ptr o_ 1 0 0, .pt 2 [Sl.enc c_.list, x_cells_]), (x_cells_, obS (c_.cells : Sl Cell21)), (AV.ptr o5 1 0 0, .pt 10 [iv a1.box.x1, iv a1.box.y1, iv a1.box.x2, iv a1.box.y2, iv a1.ways, iv a1.cost, iv a1.kind, iv a1.sign, iv a1.first, iv a1.rest])] := O10
  refine kA1 (v := AV.ptr o_ 1 0 0) rfl ?_
  refine kA1 (v := AV.ptr o_ 1 0 1) rfl ?_
  refine kA1 (v := x_cells_) (O10.ld 0 rfl false 1 1) ?_
  refine kAo (O10.tab (A := Cell21) (s := c_.cells) 1 rfl) (fun m12 a11 hi13 hm14 => ?_)
  refine kA1 (v := AV.agg [iv a11.box.x1, iv a11.box.y1, iv a11.box.x2, iv a11.box.y2, iv a11.ways, iv a11.cost, iv a11.kind, iv a11.sign, iv a11.first, iv a11.rest]) ((O10.tab (A := Cell21) (s := c_.cells) 1 rfl).ld hm14 true 10 0) ?_
  refine kBd O10 (cs := [iv 0, iv 0, iv 0, iv 0, iv 0, iv 0, iv 0, iv 0, iv 0, iv 0]) (by first | rfl | simp) (fun o15 h16 O17 => ?_)
  replace O17 : Hold B h16 [(AV.ptr o_ 1 0 0, .pt 2 [Sl.enc c_.list, x_cells_]), (x_cells_, obS (c_.cells : Sl Cell21)), (AV.ptr o5 1 0 0, .pt 10 [iv a1.box.x1, iv a1.box.y1, iv a1.box.x2, iv a1.box.y2, iv a1.ways, iv a1.cost, iv a1.kind, iv a1.sign, iv a1.first, iv a1.rest]), (AV.ptr o15 1 0 0, .pt 10 [iv 0, iv 0, iv 0, iv 0, iv 0, iv 0, iv 0, iv 0, iv 0, iv 0])] := O17
  refine kAy O17 3 (cs' := [iv a11.box.x1, iv a11.box.y1, iv a11.box.x2, iv a11.box.y2, iv a11.ways, iv a11.cost, iv a11.kind, iv a11.sign, iv a11.first, iv a11.rest]) rfl (by first | rfl | simp) (by simp) (by first | rfl | simp) (by first | rfl | simp [kAi]) (fun h19 O20 => ?_)
  replace O20 : Hold B h19 [(AV.ptr o_ 1 0 0, .pt 2 [Sl.enc c_.list, x_cells_]), (x_cells_, obS (c_.cells : Sl Cell21)), (AV.ptr o5 1 0 0, .pt 10 [iv a1.box.x1, iv a1.box.y1, iv a1.box.x2, iv a1.box.y2, iv a1.ways, iv a1.cost, iv a1.kind, iv a1.sign, iv a1.first, iv a1.rest]), (AV.ptr o15 1 0 0, .pt 10 [iv a11.box.x1, iv a11.box.y1, iv a11.box.x2, iv a11.box.y2, iv a11.ways, iv a11.cost, iv a11.kind, iv a11.sign, iv a11.first, iv a11.rest])] := O20
  refine kA1 (v := AV.ptr o5 1 0 4) rfl ?_
  refine kA1 (v := iv a1.ways) (O20.ld 2 rfl false 1 4) ?_
  refine kA1 (v := bv (!decide (rest_ = 0))) (kCi _ _) ?_
  refine kAc (fun c21 => ?_) (fun c21 => ?_)
  · refine kA1 (v := AV.ptr o15 1 0 4) rfl ?_
    refine kA1 (v := iv a11.ways) (O20.ld 3 rfl false 1 4) ?_
    refine kA1 (v := iv (wr (a1.ways * a11.ways))) (aBin_mul _ _) ?_
    refine kA1 (v := AV.agg [iv 0, iv 0, iv 0, iv 0]) (by first | rfl | simp [kBv, kF7, kAi]) ?_
    refine kBd O20 (cs := [iv 0, iv 0, iv 0, iv 0]) (by first | rfl | simp) (fun o22 h23 O24 => ?_)
    replace O24 : Hold B h23 [(AV.ptr o_ 1 0 0, .pt 2 [Sl.enc c_.list, x_cells_]), (x_cells_, obS (c_.cells : Sl Cell21)), (AV.ptr o5 1 0 0, .pt 10 [iv a1.box.x1, iv a1.box.y1, iv a1.box.x2, iv a1.box.y2, iv a1.ways, iv a1.cost, iv a1.kind, iv a1.sign, iv a1.first, iv a1.rest]), (AV.ptr o15 1 0 0, .pt 10 [iv a11.box.x1, iv a11.box.y1, iv a11.box.x2, iv a11.box.y2, iv a11.ways, iv a11.cost, iv a11.kind, iv a11.sign, iv a11.first, iv a11.rest]), (AV.ptr o22 1 0 0, .pt 4 [iv 0, iv 0, iv 0, iv 0])] := O24
    refine kAy O24 4 (cs' := [iv 0, iv 0, iv 0, iv 0]) rfl (by first | rfl | simp) (by simp) (by first | rfl | simp) (by first | rfl | simp [kAi]) (fun h26 O27 => ?_)
    replace O27 : Hold B h26 [(AV.ptr o_ 1 0 0, .pt 2 [Sl.enc c_.list, x_cells_]), (x_cells_, obS (c_.cells : Sl Cell21)), (AV.ptr o5 1 0 0, .pt 10 [iv a1.box.x1, iv a1.box.y1, iv a1.box.x2, iv a1.box.y2, iv a1.ways, iv a1.cost, iv a1.kind, iv a1.sign, iv a1.first, iv a1.rest]), (AV.ptr o15 1 0 0, .pt 10 [iv a11.box.x1, iv a11.box.y1, iv a11.box.x2, iv a11.box.y2, iv a11.ways, iv a11.cost, iv a11.kind, iv a11.sign, iv a11.first, iv a11.rest]), (AV.ptr o22 1 0 0, .pt 4 [iv 0, iv 0, iv 0, iv 0])] := O27
    refine kCc he_q65 (kAm _ _) (fun c28 => ?_)
    refine kB4 (kAe (by rfl) _ _) ?_
    refine kA1 (v := bv (!decide (c28 = (⟨#[]⟩ : ByteArray)))) (aCmp_neS _ _) ?_
    refine kAc (fun c29 => ?_) (fun c29 => ?_)
    · refine kA1 (v := AV.ptr o_ 1 0 0) rfl ?_
      refine kA1 (v := AV.ptr o_ 1 0 0) rfl ?_
      refine kA1 (v := Sl.enc c_.list) (O27.ld 0 rfl false 1 0) ?_
      refine kAo (Tab.enc h26 c_.list) (fun m31 a30 hi32 hm33 => ?_)
      refine kA1 (v := elp (Sl.enc c_.list) m31 1) ((Tab.enc h26 c_.list).fld _ _ _) ?_
      refine kA1 (v := AV.agg [iv a30.box.x1, iv a30.box.y1, iv a30.box.x2, iv a30.box.y2]) ((Tab.enc h26 c_.list).ld hm33 true 4 1) ?_
      refine kAy O27 4 (cs' := [iv a30.box.x1, iv a30.box.y1, iv a30.box.x2, iv a30.box.y2]) rfl (by first | rfl | simp) (by simp) (by first | rfl | simp) (by first | rfl | simp [kAi]) (fun h34 O35 => ?_)
      replace O35 : Hold B h34 [(AV.ptr o_ 1 0 0, .pt 2 [Sl.enc c_.list, x_cells_]), (x_cells_, obS (c_.cells : Sl Cell21)), (AV.ptr o5 1 0 0, .pt 10 [iv a1.box.x1, iv a1.box.y1, iv a1.box.x2, iv a1.box.y2, iv a1.ways, iv a1.cost, iv a1.kind, iv a1.sign, iv a1.first, iv a1.rest]), (AV.ptr o15 1 0 0, .pt 10 [iv a11.box.x1, iv a11.box.y1, iv a11.box.x2, iv a11.box.y2, iv a11.ways, iv a11.cost, iv a11.kind, iv a11.sign, iv a11.first, iv a11.rest]), (AV.ptr o22 1 0 0, .pt 4 [iv a30.box.x1, iv a30.box.y1, iv a30.box.x2, iv a30.box.y2])] := O35
      refine kA1 (v := bv (decide (wr (a1.ways * a11.ways) = 0))) (kAv _ _) ?_
      refine kBr (e := bv) (fun hb36 => ?_) (fun c38 => ?_)
      · refine kA1 (v := AV.agg [iv a30.box.x1, iv a30.box.y1, iv a30.box.x2, iv a30.box.y2]) (O35.ld 4 rfl true 4 0) ?_
        refine kA1 (v := AV.ptr o5 1 0 0) rfl ?_
        refine kA1 (v := AV.agg [iv a1.box.x1, iv a1.box.y1, iv a1.box.x2, iv a1.box.y2]) (O35.ld 2 rfl true 4 0) ?_
        refine kA1 (v := AV.ptr o15 1 0 0) rfl ?_
        refine kA1 (v := AV.agg [iv a11.box.x1, iv a11.box.y1, iv a11.box.x2, iv a11.box.y2]) (O35.ld 3 rfl true 4 0) ?_
        refine kIx he_q64 (kAm _ _) (kAf _ a30.box rfl) (kAf _ a1.box rfl) (kAf _ a11.box rfl) (fun c37 => ?_)
        refine kB4 (kAe (by rfl) _ _) ?_
        refine kA1 (v := bv (!c37)) (kD4 _) ?_
        exact kA8 rfl
      · refine kA1 (v := bv (bif decide (wr (a1.ways * a11.ways) = 0) then true else c38)) (kCt _ _ _) ?_
        refine kAc (fun c39 => ?_) (fun c39 => ?_)
        · have O40 : Hold B h34 [(AV.ptr o_ 1 0 0, .pt 2 [Sl.enc c_.list, x_cells_]), (x_cells_, obS (c_.cells : Sl Cell21))] := O35.sel [0, 1] (by decide) rfl
          exact kA8 ⟨_, rfl, O40⟩
        · refine kA1 (v := AV.ptr o_ 1 0 0) rfl ?_
          refine kA1 (v := AV.ptr o_ 1 0 1) rfl ?_
          refine kA1 (v := x_cells_) (O35.ld 0 rfl false 1 1) ?_
          refine kAo (O35.tab (A := Cell21) (s := c_.cells) 1 rfl) (fun m42 a41 hi43 hm44 => ?_)
          refine kA1 (v := AV.ptr o5 1 0 5) rfl ?_
          refine kA1 (v := iv a1.cost) (O35.ld 2 rfl false 1 5) ?_
          refine kA1 (v := AV.ptr o15 1 0 5) rfl ?_
          refine kA1 (v := iv a11.cost) (O35.ld 3 rfl false 1 5) ?_
          refine kA1 (v := iv (wr (a1.cost + a11.cost))) (kAd _ _) ?_
          refine kA1 (v := AV.agg [iv a30.box.x1, iv a30.box.y1, iv a30.box.x2, iv a30.box.y2]) (O35.ld 4 rfl true 4 0) ?_
          refine kA1 (v := AV.ptr o5 1 0 0) rfl ?_
          refine kA1 (v := AV.agg [iv a1.box.x1, iv a1.box.y1, iv a1.box.x2, iv a1.box.y2]) (O35.ld 2 rfl true 4 0) ?_
          refine kA1 (v := AV.ptr o15 1 0 0) rfl ?_
          refine kA1 (v := AV.agg [iv a11.box.x1, iv a11.box.y1, iv a11.box.x2, iv a11.box.y2]) (O35.ld 3 rfl true 4 0) ?_
          refine kEx he_q66 (kAm _ _) (kAf _ a30.box rfl) (kAf _ a1.box rfl) (kAf _ a11.box rfl) (fun c45 => ?_)
          refine kB4 (kAe (by rfl) _ _) ?_
          refine kA1 (v := iv (wr ((wr (a1.cost + a11.cost)) + c45))) (kAd _ _) ?_
          refine kA1 (v := elp x_cells_ m42 0) (kBm _ _ _) ?_
          refine kA1 (v := elp x_cells_ m42 4) ((O35.tab (A := Cell21) (s := c_.cells) 1 rfl).fld _ _ _) ?_
          refine kA1 (v := iv a41.ways) ((O35.tab (A := Cell21) (s := c_.cells) 1 rfl).ld hm44 false 1 4) ?_
          refine kA1 (v := bv (decide (a41.ways = 0))) (kAv _ _) ?_
          refine kBr (e := bv) (fun hb46 => ?_) (fun c47 => ?_)
          · refine kA1 (v := elp x_cells_ m42 0) (kBm _ _ _) ?_
            refine kA1 (v := elp x_cells_ m42 5) ((O35.tab (A := Cell21) (s := c_.cells) 1 rfl).fld _ _ _) ?_
            refine kA1 (v := iv a41.cost) ((O35.tab (A := Cell21) (s := c_.cells) 1 rfl).ld hm44 false 1 5) ?_
            refine kA1 (v := bv (decide ((wr ((wr (a1.cost + a11.cost)) + c45)) < a41.cost))) (kB8 _ _) ?_
            exact kA8 rfl
          · refine kA1 (v := bv (bif decide (a41.ways = 0) then true else c47)) (kCt _ _ _) ?_
            refine kAc (fun c48 => ?_) (fun c48 => ?_)
            · refine kA1 (v := elp x_cells_ m42 0) (kBm _ _ _) ?_
              refine kA1 (v := elp x_cells_ m42 5) ((O35.tab (A := Cell21) (s := c_.cells) 1 rfl).fld _ _ _) ?_
              refine kB6 (A := Cell21) O35 1 (⟨⟨a41.box.x1, a41.box.y1, a41.box.x2, a41.box.y2⟩, a41.ways, wr ((wr (a1.cost + a11.cost)) + c45), a41.kind, a41.sign, a41.first, a41.rest⟩ : Cell21) rfl hi43 hm44 rfl (by simp) (by first | rfl | simp) (by first | rfl | simp [kAi]) (fun h49 O50 => ?_)
              replace O50 : Hold B h49 [(AV.ptr o_ 1 0 0, .pt 2 [Sl.enc c_.list, x_cells_]), (x_cells_, obS ((kB1 c_.cells set_ (⟨⟨a41.box.x1, a41.box.y1, a41.box.x2, a41.box.y2⟩, a41.ways, wr ((wr (a1.cost + a11.cost)) + c45), a41.kind, a41.sign, a41.first, a41.rest⟩ : Cell21)) : Sl Cell21)), (AV.ptr o5 1 0 0, .pt 10 [iv a1.box.x1, iv a1.box.y1, iv a1.box.x2, iv a1.box.y2, iv a1.ways, iv a1.cost, iv a1.kind, iv a1.sign, iv a1.first, iv a1.rest]), (AV.ptr o15 1 0 0, .pt 10 [iv a11.box.x1, iv a11.box.y1, iv a11.box.x2, iv a11.box.y2, iv a11.ways, iv a11.cost, iv a11.kind, iv a11.sign, iv a11.first, iv a11.rest]), (AV.ptr o22 1 0 0, .pt 4 [iv a30.box.x1, iv a30.box.y1, iv a30.box.x2, iv a30.box.y2])] := O50
              refine kA1 (v := elp x_cells_ m42 0) (kBm _ _ _) ?_
              refine kA1 (v := elp x_cells_ m42 6) ((O50.tab (A := Cell21) (s := (kB1 c_.cells set_ (⟨⟨a41.box.x1, a41.box.y1, a41.box.x2, a41.box.y2⟩, a41.ways, wr ((wr (a1.cost + a11.cost)) + c45), a41.kind, a41.sign, a41.first, a41.rest⟩ : Cell21))) 1 rfl).fld _ _ _) ?_
              refine kB6 (A := Cell21) O50 1 (⟨⟨a41.box.x1, a41.box.y1, a41.box.x2, a41.box.y2⟩, a41.ways, wr ((wr (a1.cost + a11.cost)) + c45), kind_, a41.sign, a41.first, a41.rest⟩ : Cell21) rfl hi43 (kBs hi43 hm44) rfl (by simp) (by first | rfl | simp) (by first | rfl | simp [kAi]) (fun h51 O52 => ?_)
              rw [kBl] at O52
              replace O52 : Hold B h51 [(AV.ptr o_ 1 0 0, .pt 2 [Sl.enc c_.list, x_cells_]), (x_cells_, obS ((kB1 c_.cells set_ (⟨⟨a41.box.x1, a41.box.y1, a41.box.x2, a41.box.y2⟩, a41.ways, wr ((wr (a1.cost + a11.cost)) + c45), kind_, a41.sign, a41.first, a41.rest⟩ : Cell21)) : Sl Cell21)), (AV.ptr o5 1 0 0, .pt 10 [iv a1.box.x1, iv a1.box.y1, iv a1.box.x2, iv a1.box.y2, iv a1.ways, iv a1.cost, iv a1.kind, iv a1.sign, iv a1.first, iv a1.rest]), (AV.ptr o15 1 0 0, .pt 10 [iv a11.box.x1, iv a11.box.y1, iv a11.box.x2, iv a11.box.y2, iv a11.ways, iv a11.cost, iv a11.kind, iv a11.sign, iv a11.first, iv a11.rest]), (AV.ptr o22 1 0 0, .pt 4 [iv a30.box.x1, iv a30.box.y1, iv a30.box.x2, iv a30.box.y2])] := O52
              refine kA1 (v := elp x_cells_ m42 0) (kBm _ _ _) ?_
              refine kA1 (v := elp x_cells_ m42 7) ((O52.tab (A := Cell21) (s := (kB1 c_.cells set_ (⟨⟨a41.box.x1, a41.box.y1, a41.box.x2, a41.box.y2⟩, a41.ways, wr ((wr (a1.cost + a11.cost)) + c45), kind_, a41.sign, a41.first, a41.rest⟩ : Cell21))) 1 rfl).fld _ _ _) ?_
              refine kB6 (A := Cell21) O52 1 (⟨⟨a41.box.x1, a41.box.y1, a41.box.x2, a41.box.y2⟩, a41.ways, wr ((wr (a1.cost + a11.cost)) + c45), kind_, sign_, a41.first, a41.rest⟩ : Cell21) rfl hi43 (kBs hi43 hm44) rfl (by simp) (by first | rfl | simp) (by first | rfl | simp [kAi]) (fun h53 O54 => ?_)
              rw [kBl] at O54
              replace O54 : Hold B h53 [(AV.ptr o_ 1 0 0, .pt 2 [Sl.enc c_.list, x_cells_]), (x_cells_, obS ((kB1 c_.cells set_ (⟨⟨a41.box.x1, a41.box.y1, a41.box.x2, a41.box.y2⟩, a41.ways, wr ((wr (a1.cost + a11.cost)) + c45), kind_, sign_, a41.first, a41.rest⟩ : Cell21)) : Sl Cell21)), (AV.ptr o5 1 0 0, .pt 10 [iv a1.box.x1, iv a1.box.y1, iv a1.box.x2, iv a1.box.y2, iv a1.ways, iv a1.cost, iv a1.kind, iv a1.sign, iv a1.first, iv a1.rest]), (AV.ptr o15 1 0 0, .pt 10 [iv a11.box.x1, iv a11.box.y1, iv a11.box.x2, iv a11.box.y2, iv a11.ways, iv a11.cost, iv a11.kind, iv a11.sign, iv a11.first, iv a11.rest]), (AV.ptr o22 1 0 0, .pt 4 [iv a30.box.x1, iv a30.box.y1, iv a30.box.x2, iv a30.box.y2])] := O54
              refine kA1 (v := elp x_cells_ m42 0) (kBm _ _ _) ?_
              refine kA1 (v := elp x_cells_ m42 8) ((O54.tab (A := Cell21) (s := (kB1 c_.cells set_ (⟨⟨a41.box.x1, a41.box.y1, a41.box.x2, a41.box.y2⟩, a41.ways, wr ((wr (a1.cost + a11.cost)) + c45), kind_, sign_, a41.first, a41.rest⟩ : Cell21))) 1 rfl).fld _ _ _) ?_
              refine kB6 (A := Cell21) O54 1 (⟨⟨a41.box.x1, a41.box.y1, a41.box.x2, a41.box.y2⟩, a41.ways, wr ((wr (a1.cost + a11.cost)) + c45), kind_, sign_, first_, a41.rest⟩ : Cell21) rfl hi43 (kBs hi43 hm44) rfl (by simp) (by first | rfl | simp) (by first | rfl | simp [kAi]) (fun h55 O56 => ?_)
              rw [kBl] at O56
              replace O56 : Hold B h55 [(AV.ptr o_ 1 0 0, .pt 2 [Sl.enc c_.list, x_cells_]), (x_cells_, obS ((kB1 c_.cells set_ (⟨⟨a41.box.x1, a41.box.y1, a41.box.x2, a41.box.y2⟩, a41.ways, wr ((wr (a1.cost + a11.cost)) + c45), kind_, sign_, first_, a41.rest⟩ : Cell21)) : Sl Cell21)), (AV.ptr o5 1 0 0, .pt 10 [iv a1.box.x1, iv a1.box.y1, iv a1.box.x2, iv a1.box.y2, iv a1.ways, iv a1.cost, iv a1.kind, iv a1.sign, iv a1.first, iv a1.rest]), (AV.ptr o15 1 0 0, .pt 10 [iv a11.box.x1, iv a11.box.y1, iv a11.box.x2, iv a11.box.y2, iv a11.ways, iv a11.cost, iv a11.kind, iv a11.sign, iv a11.first, iv a11.rest]), (AV.ptr o22 1 0 0, .pt 4 [iv a30.box.x1, iv a30.box.y1, iv a30.box.x2, iv a30.box.y2])] := O56
              refine kA1 (v := elp x_cells_ m42 0) (kBm _ _ _) ?_
              refine kA1 (v := elp x_cells_ m42 9) ((O56.tab (A := Cell21) (s := (kB1 c_.cells set_ (⟨⟨a41.box.x1, a41.box.y1, a41.box.x2, a41.box.y2⟩, a41.ways, wr ((wr (a1.cost + a11.cost)) + c45), kind_, sign_, first_, a41.rest⟩ : Cell21))) 1 rfl).fld _ _ _) ?_
              refine kB6 (A := Cell21) O56 1 (⟨⟨a41.box.x1, a41.box.y1, a41.box.x2, a41.box.y2⟩, a41.ways, wr ((wr (a1.cost + a11.cost)) + c45), kind_, sign_, first_, rest_⟩ : Cell21) rfl hi43 (kBs hi43 hm44) rfl (by simp) (by first | rfl | simp) (by first | rfl | simp [kAi]) (fun h57 O58 => ?_)
              rw [kBl] at O58
              replace O58 : Hold B h57 [(AV.ptr o_ 1 0 0, .pt 2 [Sl.enc c_.list, x_cells_]), (x_cells_, obS ((kB1 c_.cells set_ (⟨⟨a41.box.x1, a41.box.y1, a41.box.x2, a41.box.y2⟩, a41.ways, wr ((wr (a1.cost + a11.cost)) + c45), kind_, sign_, first_, rest_⟩ : Cell21)) : Sl Cell21)), (AV.ptr o5 1 0 0, .pt 10 [iv a1.box.x1, iv a1.box.y1, iv a1.box.x2, iv a1.box.y2, iv a1.ways, iv a1.cost, iv a1.kind, iv a1.sign, iv a1.first, iv a1.rest]), (AV.ptr o15 1 0 0, .pt 10 [iv a11.box.x1, iv a11.box.y1, iv a11.box.x2, iv a11.box.y2, iv a11.ways, iv a11.cost, iv a11.kind, iv a11.sign, iv a11.first, iv a11.rest]), (AV.ptr o22 1 0 0, .pt 4 [iv a30.box.x1, iv a30.box.y1, iv a30.box.x2, iv a30.box.y2])] := O58
              refine kA1 (v := elp x_cells_ m42 0) (kBm _ _ _) ?_
              refine kA1 (v := elp x_cells_ m42 4) ((O58.tab (A := Cell21) (s := (kB1 c_.cells set_ (⟨⟨a41.box.x1, a41.box.y1, a41.box.x2, a41.box.y2⟩, a41.ways, wr ((wr (a1.cost + a11.cost)) + c45), kind_, sign_, first_, rest_⟩ : Cell21))) 1 rfl).fld _ _ _) ?_
              refine kA1 (v := iv a41.ways) ((O58.tab (A := Cell21) (s := (kB1 c_.cells set_ (⟨⟨a41.box.x1, a41.box.y1, a41.box.x2, a41.box.y2⟩, a41.ways, wr ((wr (a1.cost + a11.cost)) + c45), kind_, sign_, first_, rest_⟩ : Cell21))) 1 rfl).ld (kBs hi43 hm44) false 1 4) ?_
              refine kA1 (v := iv (wr (a41.ways + (wr (a1.ways * a11.ways))))) (kAd _ _) ?_
              refine kA1 (v := elp x_cells_ m42 0) (kBm _ _ _) ?_
              refine kA1 (v := elp x_cells_ m42 4) ((O58.tab (A := Cell21) (s := (kB1 c_.cells set_ (⟨⟨a41.box.x1, a41.box.y1, a41.box.x2, a41.box.y2⟩, a41.ways, wr ((wr (a1.cost + a11.cost)) + c45), kind_, sign_, first_, rest_⟩ : Cell21))) 1 rfl).fld _ _ _) ?_
              refine kB6 (A := Cell21) O58 1 (⟨⟨a41.box.x1, a41.box.y1, a41.box.x2, a41.box.y2⟩, wr (a41.ways + (wr (a1.ways * a11.ways))), wr ((wr (a1.cost + a11.cost)) + c45), kind_, sign_, first_, rest_⟩ : Cell21) rfl hi43 (kBs hi43 hm44) rfl (by simp) (by first | rfl | simp) (by first | rfl | simp [kAi]) (fun h59 O60 => ?_)
              rw [kBl] at O60
              replace O60 : Hold B h59 [(AV.ptr o_ 1 0 0, .pt 2 [Sl.enc c_.list, x_cells_]), (x_cells_, obS ((kB1 c_.cells set_ (⟨⟨a41.box.x1, a41.box.y1, a41.box.x2, a41.box.y2⟩, wr (a41.ways + (wr (a1.ways * a11.ways))), wr ((wr (a1.cost + a11.cost)) + c45), kind_, sign_, first_, rest_⟩ : Cell21)) : Sl Cell21)), (AV.ptr o5 1 0 0, .pt 10 [iv a1.box.x1, iv a1.box.y1, iv a1.box.x2, iv a1.box.y2, iv a1.ways, iv a1.cost, iv a1.kind, iv a1.sign, iv a1.first, iv a1.rest]), (AV.ptr o15 1 0 0, .pt 10 [iv a11.box.x1, iv a11.box.y1, iv a11.box.x2, iv a11.box.y2, iv a11.ways, iv a11.cost, iv a11.kind, iv a11.sign, iv a11.first, iv a11.rest]), (AV.ptr o22 1 0 0, .pt 4 [iv a30.box.x1, iv a30.box.y1, iv a30.box.x2, iv a30.box.y2])] := O60
              have O61 : Hold B h59 [(AV.ptr o_ 1 0 0, .pt 2 [Sl.enc c_.list, x_cells_]), (x_cells_, obS ((kB1 c_.cells set_ (⟨⟨a41.box.x1, a41.box.y1, a41.box.x2, a41.box.y2⟩, wr (a41.ways + (wr (a1.ways * a11.ways))), wr ((wr (a1.cost + a11.cost)) + c45), kind_, sign_, first_, rest_⟩ : Cell21)) : Sl Cell21))] := O60.sel [0, 1] (by decide) rfl
              exact kA8 ⟨_, rfl, O61⟩
            · refine kA1 (v := elp x_cells_ m42 0) (kBm _ _ _) ?_
              refine kA1 (v := elp x_cells_ m42 4) ((O35.tab (A := Cell21) (s := c_.cells) 1 rfl).fld _ _ _) ?_
              refine kA1 (v := iv a41.ways) ((O35.tab (A := Cell21) (s := c_.cells) 1 rfl).ld hm44 false 1 4) ?_
              refine kA1 (v := iv (wr (a41.ways + (wr (a1.ways * a11.ways))))) (kAd _ _) ?_
              refine kA1 (v := elp x_cells_ m42 0) (kBm _ _ _) ?_
              refine kA1 (v := elp x_cells_ m42 4) ((O35.tab (A := Cell21) (s := c_.cells) 1 rfl).fld _ _ _) ?_
              refine kB6 (A := Cell21) O35 1 (⟨⟨a41.box.x1, a41.box.y1, a41.box.x2, a41.box.y2⟩, wr (a41.ways + (wr (a1.ways * a11.ways))), a41.cost, a41.kind, a41.sign, a41.first, a41.rest⟩ : Cell21) rfl hi43 hm44 rfl (by simp) (by first | rfl | simp) (by first | rfl | simp [kAi]) (fun h62 O63 => ?_)
              replace O63 : Hold B h62 [(AV.ptr o_ 1 0 0, .pt 2 [Sl.enc c_.list, x_cells_]), (x_cells_, obS ((kB1 c_.cells set_ (⟨⟨a41.box.x1, a41.box.y1, a41.box.x2, a41.box.y2⟩, wr (a41.ways + (wr (a1.ways * a11.ways))), a41.cost, a41.kind, a41.sign, a41.first, a41.rest⟩ : Cell21)) : Sl Cell21)), (AV.ptr o5 1 0 0, .pt 10 [iv a1.box.x1, iv a1.box.y1, iv a1.box.x2, iv a1.box.y2, iv a1.ways, iv a1.cost, iv a1.kind, iv a1.sign, iv a1.first, iv a1.rest]), (AV.ptr o15 1 0 0, .pt 10 [iv a11.box.x1, iv a11.box.y1, iv a11.box.x2, iv a11.box.y2, iv a11.ways, iv a11.cost, iv a11.kind, iv a11.sign, iv a11.first, iv a11.rest]), (AV.ptr o22 1 0 0, .pt 4 [iv a30.box.x1, iv a30.box.y1, iv a30.box.x2, iv a30.box.y2])] := O63
              have O64 : Hold B h62 [(AV.ptr o_ 1 0 0, .pt 2 [Sl.enc c_.list, x_cells_]), (x_cells_, obS ((kB1 c_.cells set_ (⟨⟨a41.box.x1, a41.box.y1, a41.box.x2, a41.box.y2⟩, wr (a41.ways + (wr (a1.ways * a11.ways))), a41.cost, a41.kind, a41.sign, a41.first, a41.rest⟩ : Cell21)) : Sl Cell21))] := O63.sel [0, 1] (by decide) rfl
              exact kA8 ⟨_, rfl, O64⟩
    · refine kA1 (v := bv (decide (wr (a1.ways * a11.ways) = 0))) (kAv _ _) ?_
      refine kBr (e := bv) (fun hb65 => ?_) (fun c67 => ?_)
      · refine kA1 (v := AV.agg [iv 0, iv 0, iv 0, iv 0]) (O27.ld 4 rfl true 4 0) ?_
        refine kA1 (v := AV.ptr o5 1 0 0) rfl ?_
        refine kA1 (v := AV.agg [iv a1.box.x1, iv a1.box.y1, iv a1.box.x2, iv a1.box.y2]) (O27.ld 2 rfl true 4 0) ?_
        refine kA1 (v := AV.ptr o15 1 0 0) rfl ?_
        refine kA1 (v := AV.agg [iv a11.box.x1, iv a11.box.y1, iv a11.box.x2, iv a11.box.y2]) (O27.ld 3 rfl true 4 0) ?_
        refine kIx he_q64 (kAm _ _) (kAf _ (⟨0, 0, 0, 0⟩ : Box) rfl) (kAf _ a1.box rfl) (kAf _ a11.box rfl) (fun c66 => ?_)
        refine kB4 (kAe (by rfl) _ _) ?_
        refine kA1 (v := bv (!c66)) (kD4 _) ?_
        exact kA8 rfl
      · refine kA1 (v := bv (bif decide (wr (a1.ways * a11.ways) = 0) then true else c67)) (kCt _ _ _) ?_
        refine kAc (fun c68 => ?_) (fun c68 => ?_)
        · have O69 : Hold B h26 [(AV.ptr o_ 1 0 0, .pt 2 [Sl.enc c_.list, x_cells_]), (x_cells_, obS (c_.cells : Sl Cell21))] := O27.sel [0, 1] (by decide) rfl
          exact kA8 ⟨_, rfl, O69⟩
        · refine kA1 (v := AV.ptr o_ 1 0 0) rfl ?_
          refine kA1 (v := AV.ptr o_ 1 0 1) rfl ?_
          refine kA1 (v := x_cells_) (O27.ld 0 rfl false 1 1) ?_
          refine kAo (O27.tab (A := Cell21) (s := c_.cells) 1 rfl) (fun m71 a70 hi72 hm73 => ?_)
          refine kA1 (v := AV.ptr o5 1 0 5) rfl ?_
          refine kA1 (v := iv a1.cost) (O27.ld 2 rfl false 1 5) ?_
          refine kA1 (v := AV.ptr o15 1 0 5) rfl ?_
          refine kA1 (v := iv a11.cost) (O27.ld 3 rfl false 1 5) ?_
          refine kA1 (v := iv (wr (a1.cost + a11.cost))) (kAd _ _) ?_
          refine kA1 (v := AV.agg [iv 0, iv 0, iv 0, iv 0]) (O27.ld 4 rfl true 4 0) ?_
          refine kA1 (v := AV.ptr o5 1 0 0) rfl ?_
          refine kA1 (v := AV.agg [iv a1.box.x1, iv a1.box.y1, iv a1.box.x2, iv a1.box.y2]) (O27.ld 2 rfl true 4 0) ?_
          refine kA1 (v := AV.ptr o15 1 0 0) rfl ?_
          refine kA1 (v := AV.agg [iv a11.box.x1, iv a11.box.y1, iv a11.box.x2, iv a11.box.y2]) (O27.ld 3 rfl true 4 0) ?_
          refine kEx he_q66 (kAm _ _) (kAf _ (⟨0, 0, 0, 0⟩ : Box) rfl) (kAf _ a1.box rfl) (kAf _ a11.box rfl) (fun c74 => ?_)
          refine kB4 (kAe (by rfl) _ _) ?_
          refine kA1 (v := iv (wr ((wr (a1.cost + a11.cost)) + c74))) (kAd _ _) ?_
          refine kA1 (v := elp x_cells_ m71 0) (kBm _ _ _) ?_
          refine kA1 (v := elp x_cells_ m71 4) ((O27.tab (A := Cell21) (s := c_.cells) 1 rfl).fld _ _ _) ?_
          refine kA1 (v := iv a70.ways) ((O27.tab (A := Cell21) (s := c_.cells) 1 rfl).ld hm73 false 1 4) ?_
          refine kA1 (v := bv (decide (a70.ways = 0))) (kAv _ _) ?_
          refine kBr (e := bv) (fun hb75 => ?_) (fun c76 => ?_)
          · refine kA1 (v := elp x_cells_ m71 0) (kBm _ _ _) ?_
            refine kA1 (v := elp x_cells_ m71 5) ((O27.tab (A := Cell21) (s := c_.cells) 1 rfl).fld _ _ _) ?_
            refine kA1 (v := iv a70.cost) ((O27.tab (A := Cell21) (s := c_.cells) 1 rfl).ld hm73 false 1 5) ?_
            refine kA1 (v := bv (decide ((wr ((wr (a1.cost + a11.cost)) + c74)) < a70.cost))) (kB8 _ _) ?_
            exact kA8 rfl
          · refine kA1 (v := bv (bif decide (a70.ways = 0) then true else c76)) (kCt _ _ _) ?_
            refine kAc (fun c77 => ?_) (fun c77 => ?_)
            · refine kA1 (v := elp x_cells_ m71 0) (kBm _ _ _) ?_
              refine kA1 (v := elp x_cells_ m71 5) ((O27.tab (A := Cell21) (s := c_.cells) 1 rfl).fld _ _ _) ?_
              refine kB6 (A := Cell21) O27 1 (⟨⟨a70.box.x1, a70.box.y1, a70.box.x2, a70.box.y2⟩, a70.ways, wr ((wr (a1.cost + a11.cost)) + c74), a70.kind, a70.sign, a70.first, a70.rest⟩ : Cell21) rfl hi72 hm73 rfl (by simp) (by first | rfl | simp) (by first | rfl | simp [kAi]) (fun h78 O79 => ?_)
              replace O79 : Hold B h78 [(AV.ptr o_ 1 0 0, .pt 2 [Sl.enc c_.list, x_cells_]), (x_cells_, obS ((kB1 c_.cells set_ (⟨⟨a70.box.x1, a70.box.y1, a70.box.x2, a70.box.y2⟩, a70.ways, wr ((wr (a1.cost + a11.cost)) + c74), a70.kind, a70.sign, a70.first, a70.rest⟩ : Cell21)) : Sl Cell21)), (AV.ptr o5 1 0 0, .pt 10 [iv a1.box.x1, iv a1.box.y1, iv a1.box.x2, iv a1.box.y2, iv a1.ways, iv a1.cost, iv a1.kind, iv a1.sign, iv a1.first, iv a1.rest]), (AV.ptr o15 1 0 0, .pt 10 [iv a11.box.x1, iv a11.box.y1, iv a11.box.x2, iv a11.box.y2, iv a11.ways, iv a11.cost, iv a11.kind, iv a11.sign, iv a11.first, iv a11.rest]), (AV.ptr o22 1 0 0, .pt 4 [iv 0, iv 0, iv 0, iv 0])] := O79
              refine kA1 (v := elp x_cells_ m71 0) (kBm _ _ _) ?_
              refine kA1 (v := elp x_cells_ m71 6) ((O79.tab (A := Cell21) (s := (kB1 c_.cells set_ (⟨⟨a70.box.x1, a70.box.y1, a70.box.x2, a70.box.y2⟩, a70.ways, wr ((wr (a1.cost + a11.cost)) + c74), a70.kind, a70.sign, a70.first, a70.rest⟩ : Cell21))) 1 rfl).fld _ _ _) ?_
              refine kB6 (A := Cell21) O79 1 (⟨⟨a70.box.x1, a70.box.y1, a70.box.x2, a70.box.y2⟩, a70.ways, wr ((wr (a1.cost + a11.cost)) + c74), kind_, a70.sign, a70.first, a70.rest⟩ : Cell21) rfl hi72 (kBs hi72 hm73) rfl (by simp) (by first | rfl | simp) (by first | rfl | simp [kAi]) (fun h80 O81 => ?_)
              rw [kBl] at O81
              replace O81 : Hold B h80 [(AV.ptr o_ 1 0 0, .pt 2 [Sl.enc c_.list, x_cells_]), (x_cells_, obS ((kB1 c_.cells set_ (⟨⟨a70.box.x1, a70.box.y1, a70.box.x2, a70.box.y2⟩, a70.ways, wr ((wr (a1.cost + a11.cost)) + c74), kind_, a70.sign, a70.first, a70.rest⟩ : Cell21)) : Sl Cell21)), (AV.ptr o5 1 0 0, .pt 10 [iv a1.box.x1, iv a1.box.y1, iv a1.box.x2, iv a1.box.y2, iv a1.ways, iv a1.cost, iv a1.kind, iv a1.sign, iv a1.first, iv a1.rest]), (AV.ptr o15 1 0 0, .pt 10 [iv a11.box.x1, iv a11.box.y1, iv a11.box.x2, iv a11.box.y2, iv a11.ways, iv a11.cost, iv a11.kind, iv a11.sign, iv a11.first, iv a11.rest]), (AV.ptr o22 1 0 0, .pt 4 [iv 0, iv 0, iv 0, iv 0])] := O81
              refine kA1 (v := elp x_cells_ m71 0) (kBm _ _ _) ?_
              refine kA1 (v := elp x_cells_ m71 7) ((O81.tab (A := Cell21) (s := (kB1 c_.cells set_ (⟨⟨a70.box.x1, a70.box.y1, a70.box.x2, a70.box.y2⟩, a70.ways, wr ((wr (a1.cost + a11.cost)) + c74), kind_, a70.sign, a70.first, a70.rest⟩ : Cell21))) 1 rfl).fld _ _ _) ?_
              refine kB6 (A := Cell21) O81 1 (⟨⟨a70.box.x1, a70.box.y1, a70.box.x2, a70.box.y2⟩, a70.ways, wr ((wr (a1.cost + a11.cost)) + c74), kind_, sign_, a70.first, a70.rest⟩ : Cell21) rfl hi72 (kBs hi72 hm73) rfl (by simp) (by first | rfl | simp) (by first | rfl | simp [kAi]) (fun h82 O83 => ?_)
              rw [kBl] at O83
              replace O83 : Hold B h82 [(AV.ptr o_ 1 0 0, .pt 2 [Sl.enc c_.list, x_cells_]), (x_cells_, obS ((kB1 c_.cells set_ (⟨⟨a70.box.x1, a70.box.y1, a70.box.x2, a70.box.y2⟩, a70.ways, wr ((wr (a1.cost + a11.cost)) + c74), kind_, sign_, a70.first, a70.rest⟩ : Cell21)) : Sl Cell21)), (AV.ptr o5 1 0 0, .pt 10 [iv a1.box.x1, iv a1.box.y1, iv a1.box.x2, iv a1.box.y2, iv a1.ways, iv a1.cost, iv a1.kind, iv a1.sign, iv a1.first, iv a1.rest]), (AV.ptr o15 1 0 0, .pt 10 [iv a11.box.x1, iv a11.box.y1, iv a11.box.x2, iv a11.box.y2, iv a11.ways, iv a11.cost, iv a11.kind, iv a11.sign, iv a11.first, iv a11.rest]), (AV.ptr o22 1 0 0, .pt 4 [iv 0, iv 0, iv 0, iv 0])] := O83
              refine kA1 (v := elp x_cells_ m71 0) (kBm _ _ _) ?_
              refine kA1 (v := elp x_cells_ m71 8) ((O83.tab (A := Cell21) (s := (kB1 c_.cells set_ (⟨⟨a70.box.x1, a70.box.y1, a70.box.x2, a70.box.y2⟩, a70.ways, wr ((wr (a1.cost + a11.cost)) + c74), kind_, sign_, a70.first, a70.rest⟩ : Cell21))) 1 rfl).fld _ _ _) ?_
              refine kB6 (A := Cell21) O83 1 (⟨⟨a70.box.x1, a70.box.y1, a70.box.x2, a70.box.y2⟩, a70.ways, wr ((wr (a1.cost + a11.cost)) + c74), kind_, sign_, first_, a70.rest⟩ : Cell21) rfl hi72 (kBs hi72 hm73) rfl (by simp) (by first | rfl | simp) (by first | rfl | simp [kAi]) (fun h84 O85 => ?_)
              rw [kBl] at O85
              replace O85 : Hold B h84 [(AV.ptr o_ 1 0 0, .pt 2 [Sl.enc c_.list, x_cells_]), (x_cells_, obS ((kB1 c_.cells set_ (⟨⟨a70.box.x1, a70.box.y1, a70.box.x2, a70.box.y2⟩, a70.ways, wr ((wr (a1.cost + a11.cost)) + c74), kind_, sign_, first_, a70.rest⟩ : Cell21)) : Sl Cell21)), (AV.ptr o5 1 0 0, .pt 10 [iv a1.box.x1, iv a1.box.y1, iv a1.box.x2, iv a1.box.y2, iv a1.ways, iv a1.cost, iv a1.kind, iv a1.sign, iv a1.first, iv a1.rest]), (AV.ptr o15 1 0 0, .pt 10 [iv a11.box.x1, iv a11.box.y1, iv a11.box.x2, iv a11.box.y2, iv a11.ways, iv a11.cost, iv a11.kind, iv a11.sign, iv a11.first, iv a11.rest]), (AV.ptr o22 1 0 0, .pt 4 [iv 0, iv 0, iv 0, iv 0])] := O85
              refine kA1 (v := elp x_cells_ m71 0) (kBm _ _ _) ?_
              refine kA1 (v := elp x_cells_ m71 9) ((O85.tab (A := Cell21) (s := (kB1 c_.cells set_ (⟨⟨a70.box.x1, a70.box.y1, a70.box.x2, a70.box.y2⟩, a70.ways, wr ((wr (a1.cost + a11.cost)) + c74), kind_, sign_, first_, a70.rest⟩ : Cell21))) 1 rfl).fld _ _ _) ?_
              refine kB6 (A := Cell21) O85 1 (⟨⟨a70.box.x1, a70.box.y1, a70.box.x2, a70.box.y2⟩, a70.ways, wr ((wr (a1.cost + a11.cost)) + c74), kind_, sign_, first_, rest_⟩ : Cell21) rfl hi72 (kBs hi72 hm73) rfl (by simp) (by first | rfl | simp) (by first | rfl | simp [kAi]) (fun h86 O87 => ?_)
              rw [kBl] at O87
              replace O87 : Hold B h86 [(AV.ptr o_ 1 0 0, .pt 2 [Sl.enc c_.list, x_cells_]), (x_cells_, obS ((kB1 c_.cells set_ (⟨⟨a70.box.x1, a70.box.y1, a70.box.x2, a70.box.y2⟩, a70.ways, wr ((wr (a1.cost + a11.cost)) + c74), kind_, sign_, first_, rest_⟩ : Cell21)) : Sl Cell21)), (AV.ptr o5 1 0 0, .pt 10 [iv a1.box.x1, iv a1.box.y1, iv a1.box.x2, iv a1.box.y2, iv a1.ways, iv a1.cost, iv a1.kind, iv a1.sign, iv a1.first, iv a1.rest]), (AV.ptr o15 1 0 0, .pt 10 [iv a11.box.x1, iv a11.box.y1, iv a11.box.x2, iv a11.box.y2, iv a11.ways, iv a11.cost, iv a11.kind, iv a11.sign, iv a11.first, iv a11.rest]), (AV.ptr o22 1 0 0, .pt 4 [iv 0, iv 0, iv 0, iv 0])] := O87
              refine kA1 (v := elp x_cells_ m71 0) (kBm _ _ _) ?_
              refine kA1 (v := elp x_cells_ m71 4) ((O87.tab (A := Cell21) (s := (kB1 c_.cells set_ (⟨⟨a70.box.x1, a70.box.y1, a70.box.x2, a70.box.y2⟩, a70.ways, wr ((wr (a1.cost + a11.cost)) + c74), kind_, sign_, first_, rest_⟩ : Cell21))) 1 rfl).fld _ _ _) ?_
              refine kA1 (v := iv a70.ways) ((O87.tab (A := Cell21) (s := (kB1 c_.cells set_ (⟨⟨a70.box.x1, a70.box.y1, a70.box.x2, a70.box.y2⟩, a70.ways, wr ((wr (a1.cost + a11.cost)) + c74), kind_, sign_, first_, rest_⟩ : Cell21))) 1 rfl).ld (kBs hi72 hm73) false 1 4) ?_
              refine kA1 (v := iv (wr (a70.ways + (wr (a1.ways * a11.ways))))) (kAd _ _) ?_
              refine kA1 (v := elp x_cells_ m71 0) (kBm _ _ _) ?_
              refine kA1 (v := elp x_cells_ m71 4) ((O87.tab (A := Cell21) (s := (kB1 c_.cells set_ (⟨⟨a70.box.x1, a70.box.y1, a70.box.x2, a70.box.y2⟩, a70.ways, wr ((wr (a1.cost + a11.cost)) + c74), kind_, sign_, first_, rest_⟩ : Cell21))) 1 rfl).fld _ _ _) ?_
              refine kB6 (A := Cell21) O87 1 (⟨⟨a70.box.x1, a70.box.y1, a70.box.x2, a70.box.y2⟩, wr (a70.ways + (wr (a1.ways * a11.ways))), wr ((wr (a1.cost + a11.cost)) + c74), kind_, sign_, first_, rest_⟩ : Cell21) rfl hi72 (kBs hi72 hm73) rfl (by simp) (by first | rfl | simp) (by first | rfl | simp [kAi]) (fun h88 O89 => ?_)
              rw [kBl] at O89
              replace O89 : Hold B h88 [(AV.ptr o_ 1 0 0, .pt 2 [Sl.enc c_.list, x_cells_]), (x_cells_, obS ((kB1 c_.cells set_ (⟨⟨a70.box.x1, a70.box.y1, a70.box.x2, a70.box.y2⟩, wr (a70.ways + (wr (a1.ways * a11.ways))), wr ((wr (a1.cost + a11.cost)) + c74), kind_, sign_, first_, rest_⟩ : Cell21)) : Sl Cell21)), (AV.ptr o5 1 0 0, .pt 10 [iv a1.box.x1, iv a1.box.y1, iv a1.box.x2, iv a1.box.y2, iv a1.ways, iv a1.cost, iv a1.kind, iv a1.sign, iv a1.first, iv a1.rest]), (AV.ptr o15 1 0 0, .pt 10 [iv a11.box.x1, iv a11.box.y1, iv a11.box.x2, iv a11.box.y2, iv a11.ways, iv a11.cost, iv a11.kind, iv a11.sign, iv a11.first, iv a11.rest]), (AV.ptr o22 1 0 0, .pt 4 [iv 0, iv 0, iv 0, iv 0])] := O89
              have O90 : Hold B h88 [(AV.ptr o_ 1 0 0, .pt 2 [Sl.enc c_.list, x_cells_]), (x_cells_, obS ((kB1 c_.cells set_ (⟨⟨a70.box.x1, a70.box.y1, a70.box.x2, a70.box.y2⟩, wr (a70.ways + (wr (a1.ways * a11.ways))), wr ((wr (a1.cost + a11.cost)) + c74), kind_, sign_, first_, rest_⟩ : Cell21)) : Sl Cell21))] := O89.sel [0, 1] (by decide) rfl
              exact kA8 ⟨_, rfl, O90⟩
            · refine kA1 (v := elp x_cells_ m71 0) (kBm _ _ _) ?_
              refine kA1 (v := elp x_cells_ m71 4) ((O27.tab (A := Cell21) (s := c_.cells) 1 rfl).fld _ _ _) ?_
              refine kA1 (v := iv a70.ways) ((O27.tab (A := Cell21) (s := c_.cells) 1 rfl).ld hm73 false 1 4) ?_
              refine kA1 (v := iv (wr (a70.ways + (wr (a1.ways * a11.ways))))) (kAd _ _) ?_
              refine kA1 (v := elp x_cells_ m71 0) (kBm _ _ _) ?_
              refine kA1 (v := elp x_cells_ m71 4) ((O27.tab (A := Cell21) (s := c_.cells) 1 rfl).fld _ _ _) ?_
              refine kB6 (A := Cell21) O27 1 (⟨⟨a70.box.x1, a70.box.y1, a70.box.x2, a70.box.y2⟩, wr (a70.ways + (wr (a1.ways * a11.ways))), a70.cost, a70.kind, a70.sign, a70.first, a70.rest⟩ : Cell21) rfl hi72 hm73 rfl (by simp) (by first | rfl | simp) (by first | rfl | simp [kAi]) (fun h91 O92 => ?_)
              replace O92 : Hold B h91 [(AV.ptr o_ 1 0 0, .pt 2 [Sl.enc c_.list, x_cells_]), (x_cells_, obS ((kB1 c_.cells set_ (⟨⟨a70.box.x1, a70.box.y1, a70.box.x2, a70.box.y2⟩, wr (a70.ways + (wr (a1.ways * a11.ways))), a70.cost, a70.kind, a70.sign, a70.first, a70.rest⟩ : Cell21)) : Sl Cell21)), (AV.ptr o5 1 0 0, .pt 10 [iv a1.box.x1, iv a1.box.y1, iv a1.box.x2, iv a1.box.y2, iv a1.ways, iv a1.cost, iv a1.kind, iv a1.sign, iv a1.first, iv a1.rest]), (AV.ptr o15 1 0 0, .pt 10 [iv a11.box.x1, iv a11.box.y1, iv a11.box.x2, iv a11.box.y2, iv a11.ways, iv a11.cost, iv a11.kind, iv a11.sign, iv a11.first, iv a11.rest]), (AV.ptr o22 1 0 0, .pt 4 [iv 0, iv 0, iv 0, iv 0])] := O92
              have O93 : Hold B h91 [(AV.ptr o_ 1 0 0, .pt 2 [Sl.enc c_.list, x_cells_]), (x_cells_, obS ((kB1 c_.cells set_ (⟨⟨a70.box.x1, a70.box.y1, a70.box.x2, a70.box.y2⟩, wr (a70.ways + (wr (a1.ways * a11.ways))), a70.cost, a70.kind, a70.sign, a70.first, a70.rest⟩ : Cell21)) : Sl Cell21))] := O92.sel [0, 1] (by decide) rfl
              exact kA8 ⟨_, rfl, O93⟩
  · refine kA1 (v := AV.agg [iv 0, iv 0, iv 0, iv 0]) (by first | rfl | simp [kBv, kF7, kAi]) ?_
    refine kBd O20 (cs := [iv 0, iv 0, iv 0, iv 0]) (by first | rfl | simp) (fun o94 h95 O96 => ?_)
    replace O96 : Hold B h95 [(AV.ptr o_ 1 0 0, .pt 2 [Sl.enc c_.list, x_cells_]), (x_cells_, obS (c_.cells : Sl Cell21)), (AV.ptr o5 1 0 0, .pt 10 [iv a1.box.x1, iv a1.box.y1, iv a1.box.x2, iv a1.box.y2, iv a1.ways, iv a1.cost, iv a1.kind, iv a1.sign, iv a1.first, iv a1.rest]), (AV.ptr o15 1 0 0, .pt 10 [iv a11.box.x1, iv a11.box.y1, iv a11.box.x2, iv a11.box.y2, iv a11.ways, iv a11.cost, iv a11.kind, iv a11.sign, iv a11.first, iv a11.rest]), (AV.ptr o94 1 0 0, .pt 4 [iv 0, iv 0, iv 0, iv 0])] := O96
    refine kAy O96 4 (cs' := [iv 0, iv 0, iv 0, iv 0]) rfl (by first | rfl | simp) (by simp) (by first | rfl | simp) (by first | rfl | simp [kAi]) (fun h98 O99 => ?_)
    replace O99 : Hold B h98 [(AV.ptr o_ 1 0 0, .pt 2 [Sl.enc c_.list, x_cells_]), (x_cells_, obS (c_.cells : Sl Cell21)), (AV.ptr o5 1 0 0, .pt 10 [iv a1.box.x1, iv a1.box.y1, iv a1.box.x2, iv a1.box.y2, iv a1.ways, iv a1.cost, iv a1.kind, iv a1.sign, iv a1.first, iv a1.rest]), (AV.ptr o15 1 0 0, .pt 10 [iv a11.box.x1, iv a11.box.y1, iv a11.box.x2, iv a11.box.y2, iv a11.ways, iv a11.cost, iv a11.kind, iv a11.sign, iv a11.first, iv a11.rest]), (AV.ptr o94 1 0 0, .pt 4 [iv 0, iv 0, iv 0, iv 0])] := O99
    refine kCc he_q65 (kAm _ _) (fun c100 => ?_)
    refine kB4 (kAe (by rfl) _ _) ?_
    refine kA1 (v := bv (!decide (c100 = (⟨#[]⟩ : ByteArray)))) (aCmp_neS _ _) ?_
    refine kAc (fun c101 => ?_) (fun c101 => ?_)
    · refine kA1 (v := AV.ptr o_ 1 0 0) rfl ?_
      refine kA1 (v := AV.ptr o_ 1 0 0) rfl ?_
      refine kA1 (v := Sl.enc c_.list) (O99.ld 0 rfl false 1 0) ?_
      refine kAo (Tab.enc h98 c_.list) (fun m103 a102 hi104 hm105 => ?_)
      refine kA1 (v := elp (Sl.enc c_.list) m103 1) ((Tab.enc h98 c_.list).fld _ _ _) ?_
      refine kA1 (v := AV.agg [iv a102.box.x1, iv a102.box.y1, iv a102.box.x2, iv a102.box.y2]) ((Tab.enc h98 c_.list).ld hm105 true 4 1) ?_
      refine kAy O99 4 (cs' := [iv a102.box.x1, iv a102.box.y1, iv a102.box.x2, iv a102.box.y2]) rfl (by first | rfl | simp) (by simp) (by first | rfl | simp) (by first | rfl | simp [kAi]) (fun h106 O107 => ?_)
      replace O107 : Hold B h106 [(AV.ptr o_ 1 0 0, .pt 2 [Sl.enc c_.list, x_cells_]), (x_cells_, obS (c_.cells : Sl Cell21)), (AV.ptr o5 1 0 0, .pt 10 [iv a1.box.x1, iv a1.box.y1, iv a1.box.x2, iv a1.box.y2, iv a1.ways, iv a1.cost, iv a1.kind, iv a1.sign, iv a1.first, iv a1.rest]), (AV.ptr o15 1 0 0, .pt 10 [iv a11.box.x1, iv a11.box.y1, iv a11.box.x2, iv a11.box.y2, iv a11.ways, iv a11.cost, iv a11.kind, iv a11.sign, iv a11.first, iv a11.rest]), (AV.ptr o94 1 0 0, .pt 4 [iv a102.box.x1, iv a102.box.y1, iv a102.box.x2, iv a102.box.y2])] := O107
      refine kA1 (v := bv (decide (a1.ways = 0))) (kAv _ _) ?_
      refine kBr (e := bv) (fun hb108 => ?_) (fun c110 => ?_)
      · refine kA1 (v := AV.agg [iv a102.box.x1, iv a102.box.y1, iv a102.box.x2, iv a102.box.y2]) (O107.ld 4 rfl true 4 0) ?_
        refine kA1 (v := AV.ptr o5 1 0 0) rfl ?_
        refine kA1 (v := AV.agg [iv a1.box.x1, iv a1.box.y1, iv a1.box.x2, iv a1.box.y2]) (O107.ld 2 rfl true 4 0) ?_
        refine kA1 (v := AV.ptr o15 1 0 0) rfl ?_
        refine kA1 (v := AV.agg [iv a11.box.x1, iv a11.box.y1, iv a11.box.x2, iv a11.box.y2]) (O107.ld 3 rfl true 4 0) ?_
        refine kIx he_q64 (kAm _ _) (kAf _ a102.box rfl) (kAf _ a1.box rfl) (kAf _ a11.box rfl) (fun c109 => ?_)
        refine kB4 (kAe (by rfl) _ _) ?_
        refine kA1 (v := bv (!c109)) (kD4 _) ?_
        exact kA8 rfl
      · refine kA1 (v := bv (bif decide (a1.ways = 0) then true else c110)) (kCt _ _ _) ?_
        refine kAc (fun c111 => ?_) (fun c111 => ?_)
        · have O112 : Hold B h106 [(AV.ptr o_ 1 0 0, .pt 2 [Sl.enc c_.list, x_cells_]), (x_cells_, obS (c_.cells : Sl Cell21))] := O107.sel [0, 1] (by decide) rfl
          exact kA8 ⟨_, rfl, O112⟩
        · refine kA1 (v := AV.ptr o_ 1 0 0) rfl ?_
          refine kA1 (v := AV.ptr o_ 1 0 1) rfl ?_
          refine kA1 (v := x_cells_) (O107.ld 0 rfl false 1 1) ?_
          refine kAo (O107.tab (A := Cell21) (s := c_.cells) 1 rfl) (fun m114 a113 hi115 hm116 => ?_)
          refine kA1 (v := AV.ptr o5 1 0 5) rfl ?_
          refine kA1 (v := iv a1.cost) (O107.ld 2 rfl false 1 5) ?_
          refine kA1 (v := AV.ptr o15 1 0 5) rfl ?_
          refine kA1 (v := iv a11.cost) (O107.ld 3 rfl false 1 5) ?_
          refine kA1 (v := iv (wr (a1.cost + a11.cost))) (kAd _ _) ?_
          refine kA1 (v := AV.agg [iv a102.box.x1, iv a102.box.y1, iv a102.box.x2, iv a102.box.y2]) (O107.ld 4 rfl true 4 0) ?_
          refine kA1 (v := AV.ptr o5 1 0 0) rfl ?_
          refine kA1 (v := AV.agg [iv a1.box.x1, iv a1.box.y1, iv a1.box.x2, iv a1.box.y2]) (O107.ld 2 rfl true 4 0) ?_
          refine kA1 (v := AV.ptr o15 1 0 0) rfl ?_
          refine kA1 (v := AV.agg [iv a11.box.x1, iv a11.box.y1, iv a11.box.x2, iv a11.box.y2]) (O107.ld 3 rfl true 4 0) ?_
          refine kEx he_q66 (kAm _ _) (kAf _ a102.box rfl) (kAf _ a1.box rfl) (kAf _ a11.box rfl) (fun c117 => ?_)
          refine kB4 (kAe (by rfl) _ _) ?_
          refine kA1 (v := iv (wr ((wr (a1.cost + a11.cost)) + c117))) (kAd _ _) ?_
          refine kA1 (v := elp x_cells_ m114 0) (kBm _ _ _) ?_
          refine kA1 (v := elp x_cells_ m114 4) ((O107.tab (A := Cell21) (s := c_.cells) 1 rfl).fld _ _ _) ?_
          refine kA1 (v := iv a113.ways) ((O107.tab (A := Cell21) (s := c_.cells) 1 rfl).ld hm116 false 1 4) ?_
          refine kA1 (v := bv (decide (a113.ways = 0))) (kAv _ _) ?_
          refine kBr (e := bv) (fun hb118 => ?_) (fun c119 => ?_)
          · refine kA1 (v := elp x_cells_ m114 0) (kBm _ _ _) ?_
            refine kA1 (v := elp x_cells_ m114 5) ((O107.tab (A := Cell21) (s := c_.cells) 1 rfl).fld _ _ _) ?_
            refine kA1 (v := iv a113.cost) ((O107.tab (A := Cell21) (s := c_.cells) 1 rfl).ld hm116 false 1 5) ?_
            refine kA1 (v := bv (decide ((wr ((wr (a1.cost + a11.cost)) + c117)) < a113.cost))) (kB8 _ _) ?_
            exact kA8 rfl
          · refine kA1 (v := bv (bif decide (a113.ways = 0) then true else c119)) (kCt _ _ _) ?_
            refine kAc (fun c120 => ?_) (fun c120 => ?_)
            · refine kA1 (v := elp x_cells_ m114 0) (kBm _ _ _) ?_
              refine kA1 (v := elp x_cells_ m114 5) ((O107.tab (A := Cell21) (s := c_.cells) 1 rfl).fld _ _ _) ?_
              refine kB6 (A := Cell21) O107 1 (⟨⟨a113.box.x1, a113.box.y1, a113.box.x2, a113.box.y2⟩, a113.ways, wr ((wr (a1.cost + a11.cost)) + c117), a113.kind, a113.sign, a113.first, a113.rest⟩ : Cell21) rfl hi115 hm116 rfl (by simp) (by first | rfl | simp) (by first | rfl | simp [kAi]) (fun h121 O122 => ?_)
              replace O122 : Hold B h121 [(AV.ptr o_ 1 0 0, .pt 2 [Sl.enc c_.list, x_cells_]), (x_cells_, obS ((kB1 c_.cells set_ (⟨⟨a113.box.x1, a113.box.y1, a113.box.x2, a113.box.y2⟩, a113.ways, wr ((wr (a1.cost + a11.cost)) + c117), a113.kind, a113.sign, a113.first, a113.rest⟩ : Cell21)) : Sl Cell21)), (AV.ptr o5 1 0 0, .pt 10 [iv a1.box.x1, iv a1.box.y1, iv a1.box.x2, iv a1.box.y2, iv a1.ways, iv a1.cost, iv a1.kind, iv a1.sign, iv a1.first, iv a1.rest]), (AV.ptr o15 1 0 0, .pt 10 [iv a11.box.x1, iv a11.box.y1, iv a11.box.x2, iv a11.box.y2, iv a11.ways, iv a11.cost, iv a11.kind, iv a11.sign, iv a11.first, iv a11.rest]), (AV.ptr o94 1 0 0, .pt 4 [iv a102.box.x1, iv a102.box.y1, iv a102.box.x2, iv a102.box.y2])] := O122
              refine kA1 (v := elp x_cells_ m114 0) (kBm _ _ _) ?_
              refine kA1 (v := elp x_cells_ m114 6) ((O122.tab (A := Cell21) (s := (kB1 c_.cells set_ (⟨⟨a113.box.x1, a113.box.y1, a113.box.x2, a113.box.y2⟩, a113.ways, wr ((wr (a1.cost + a11.cost)) + c117), a113.kind, a113.sign, a113.first, a113.rest⟩ : Cell21))) 1 rfl).fld _ _ _) ?_
              refine kB6 (A := Cell21) O122 1 (⟨⟨a113.box.x1, a113.box.y1, a113.box.x2, a113.box.y2⟩, a113.ways, wr ((wr (a1.cost + a11.cost)) + c117), kind_, a113.sign, a113.first, a113.rest⟩ : Cell21) rfl hi115 (kBs hi115 hm116) rfl (by simp) (by first | rfl | simp) (by first | rfl | simp [kAi]) (fun h123 O124 => ?_)
              rw [kBl] at O124
              replace O124 : Hold B h123 [(AV.ptr o_ 1 0 0, .pt 2 [Sl.enc c_.list, x_cells_]), (x_cells_, obS ((kB1 c_.cells set_ (⟨⟨a113.box.x1, a113.box.y1, a113.box.x2, a113.box.y2⟩, a113.ways, wr ((wr (a1.cost + a11.cost)) + c117), kind_, a113.sign, a113.first, a113.rest⟩ : Cell21)) : Sl Cell21)), (AV.ptr o5 1 0 0, .pt 10 [iv a1.box.x1, iv a1.box.y1, iv a1.box.x2, iv a1.box.y2, iv a1.ways, iv a1.cost, iv a1.kind, iv a1.sign, iv a1.first, iv a1.rest]), (AV.ptr o15 1 0 0, .pt 10 [iv a11.box.x1, iv a11.box.y1, iv a11.box.x2, iv a11.box.y2, iv a11.ways, iv a11.cost, iv a11.kind, iv a11.sign, iv a11.first, iv a11.rest]), (AV.ptr o94 1 0 0, .pt 4 [iv a102.box.x1, iv a102.box.y1, iv a102.box.x2, iv a102.box.y2])] := O124
              refine kA1 (v := elp x_cells_ m114 0) (kBm _ _ _) ?_
              refine kA1 (v := elp x_cells_ m114 7) ((O124.tab (A := Cell21) (s := (kB1 c_.cells set_ (⟨⟨a113.box.x1, a113.box.y1, a113.box.x2, a113.box.y2⟩, a113.ways, wr ((wr (a1.cost + a11.cost)) + c117), kind_, a113.sign, a113.first, a113.rest⟩ : Cell21))) 1 rfl).fld _ _ _) ?_
              refine kB6 (A := Cell21) O124 1 (⟨⟨a113.box.x1, a113.box.y1, a113.box.x2, a113.box.y2⟩, a113.ways, wr ((wr (a1.cost + a11.cost)) + c117), kind_, sign_, a113.first, a113.rest⟩ : Cell21) rfl hi115 (kBs hi115 hm116) rfl (by simp) (by first | rfl | simp) (by first | rfl | simp [kAi]) (fun h125 O126 => ?_)
              rw [kBl] at O126
              replace O126 : Hold B h125 [(AV.ptr o_ 1 0 0, .pt 2 [Sl.enc c_.list, x_cells_]), (x_cells_, obS ((kB1 c_.cells set_ (⟨⟨a113.box.x1, a113.box.y1, a113.box.x2, a113.box.y2⟩, a113.ways, wr ((wr (a1.cost + a11.cost)) + c117), kind_, sign_, a113.first, a113.rest⟩ : Cell21)) : Sl Cell21)), (AV.ptr o5 1 0 0, .pt 10 [iv a1.box.x1, iv a1.box.y1, iv a1.box.x2, iv a1.box.y2, iv a1.ways, iv a1.cost, iv a1.kind, iv a1.sign, iv a1.first, iv a1.rest]), (AV.ptr o15 1 0 0, .pt 10 [iv a11.box.x1, iv a11.box.y1, iv a11.box.x2, iv a11.box.y2, iv a11.ways, iv a11.cost, iv a11.kind, iv a11.sign, iv a11.first, iv a11.rest]), (AV.ptr o94 1 0 0, .pt 4 [iv a102.box.x1, iv a102.box.y1, iv a102.box.x2, iv a102.box.y2])] := O126
              refine kA1 (v := elp x_cells_ m114 0) (kBm _ _ _) ?_
              refine kA1 (v := elp x_cells_ m114 8) ((O126.tab (A := Cell21) (s := (kB1 c_.cells set_ (⟨⟨a113.box.x1, a113.box.y1, a113.box.x2, a113.box.y2⟩, a113.ways, wr ((wr (a1.cost + a11.cost)) + c117), kind_, sign_, a113.first, a113.rest⟩ : Cell21))) 1 rfl).fld _ _ _) ?_
              refine kB6 (A := Cell21) O126 1 (⟨⟨a113.box.x1, a113.box.y1, a113.box.x2, a113.box.y2⟩, a113.ways, wr ((wr (a1.cost + a11.cost)) + c117), kind_, sign_, first_, a113.rest⟩ : Cell21) rfl hi115 (kBs hi115 hm116) rfl (by simp) (by first | rfl | simp) (by first | rfl | simp [kAi]) (fun h127 O128 => ?_)
              rw [kBl] at O128
              replace O128 : Hold B h127 [(AV.ptr o_ 1 0 0, .pt 2 [Sl.enc c_.list, x_cells_]), (x_cells_, obS ((kB1 c_.cells set_ (⟨⟨a113.box.x1, a113.box.y1, a113.box.x2, a113.box.y2⟩, a113.ways, wr ((wr (a1.cost + a11.cost)) + c117), kind_, sign_, first_, a113.rest⟩ : Cell21)) : Sl Cell21)), (AV.ptr o5 1 0 0, .pt 10 [iv a1.box.x1, iv a1.box.y1, iv a1.box.x2, iv a1.box.y2, iv a1.ways, iv a1.cost, iv a1.kind, iv a1.sign, iv a1.first, iv a1.rest]), (AV.ptr o15 1 0 0, .pt 10 [iv a11.box.x1, iv a11.box.y1, iv a11.box.x2, iv a11.box.y2, iv a11.ways, iv a11.cost, iv a11.kind, iv a11.sign, iv a11.first, iv a11.rest]), (AV.ptr o94 1 0 0, .pt 4 [iv a102.box.x1, iv a102.box.y1, iv a102.box.x2, iv a102.box.y2])] := O128
              refine kA1 (v := elp x_cells_ m114 0) (kBm _ _ _) ?_
              refine kA1 (v := elp x_cells_ m114 9) ((O128.tab (A := Cell21) (s := (kB1 c_.cells set_ (⟨⟨a113.box.x1, a113.box.y1, a113.box.x2, a113.box.y2⟩, a113.ways, wr ((wr (a1.cost + a11.cost)) + c117), kind_, sign_, first_, a113.rest⟩ : Cell21))) 1 rfl).fld _ _ _) ?_
              refine kB6 (A := Cell21) O128 1 (⟨⟨a113.box.x1, a113.box.y1, a113.box.x2, a113.box.y2⟩, a113.ways, wr ((wr (a1.cost + a11.cost)) + c117), kind_, sign_, first_, rest_⟩ : Cell21) rfl hi115 (kBs hi115 hm116) rfl (by simp) (by first | rfl | simp) (by first | rfl | simp [kAi]) (fun h129 O130 => ?_)
              rw [kBl] at O130
              replace O130 : Hold B h129 [(AV.ptr o_ 1 0 0, .pt 2 [Sl.enc c_.list, x_cells_]), (x_cells_, obS ((kB1 c_.cells set_ (⟨⟨a113.box.x1, a113.box.y1, a113.box.x2, a113.box.y2⟩, a113.ways, wr ((wr (a1.cost + a11.cost)) + c117), kind_, sign_, first_, rest_⟩ : Cell21)) : Sl Cell21)), (AV.ptr o5 1 0 0, .pt 10 [iv a1.box.x1, iv a1.box.y1, iv a1.box.x2, iv a1.box.y2, iv a1.ways, iv a1.cost, iv a1.kind, iv a1.sign, iv a1.first, iv a1.rest]), (AV.ptr o15 1 0 0, .pt 10 [iv a11.box.x1, iv a11.box.y1, iv a11.box.x2, iv a11.box.y2, iv a11.ways, iv a11.cost, iv a11.kind, iv a11.sign, iv a11.first, iv a11.rest]), (AV.ptr o94 1 0 0, .pt 4 [iv a102.box.x1, iv a102.box.y1, iv a102.box.x2, iv a102.box.y2])] := O130
              refine kA1 (v := elp x_cells_ m114 0) (kBm _ _ _) ?_
              refine kA1 (v := elp x_cells_ m114 4) ((O130.tab (A := Cell21) (s := (kB1 c_.cells set_ (⟨⟨a113.box.x1, a113.box.y1, a113.box.x2, a113.box.y2⟩, a113.ways, wr ((wr (a1.cost + a11.cost)) + c117), kind_, sign_, first_, rest_⟩ : Cell21))) 1 rfl).fld _ _ _) ?_
              refine kA1 (v := iv a113.ways) ((O130.tab (A := Cell21) (s := (kB1 c_.cells set_ (⟨⟨a113.box.x1, a113.box.y1, a113.box.x2, a113.box.y2⟩, a113.ways, wr ((wr (a1.cost + a11.cost)) + c117), kind_, sign_, first_, rest_⟩ : Cell21))) 1 rfl).ld (kBs hi115 hm116) false 1 4) ?_
              refine kA1 (v := iv (wr (a113.ways + a1.ways))) (kAd _ _) ?_
              refine kA1 (v := elp x_cells_ m114 0) (kBm _ _ _) ?_
              refine kA1 (v := elp x_cells_ m114 4) ((O130.tab (A := Cell21) (s := (kB1 c_.cells set_ (⟨⟨a113.box.x1, a113.box.y1, a113.box.x2, a113.box.y2⟩, a113.ways, wr ((wr (a1.cost + a11.cost)) + c117), kind_, sign_, first_, rest_⟩ : Cell21))) 1 rfl).fld _ _ _) ?_
              refine kB6 (A := Cell21) O130 1 (⟨⟨a113.box.x1, a113.box.y1, a113.box.x2, a113.box.y2⟩, wr (a113.ways + a1.ways), wr ((wr (a1.cost + a11.cost)) + c117), kind_, sign_, first_, rest_⟩ : Cell21) rfl hi115 (kBs hi115 hm116) rfl (by simp) (by first | rfl | simp) (by first | rfl | simp [kAi]) (fun h131 O132 => ?_)
              rw [kBl] at O132
              replace O132 : Hold B h131 [(AV.ptr o_ 1 0 0, .pt 2 [Sl.enc c_.list, x_cells_]), (x_cells_, obS ((kB1 c_.cells set_ (⟨⟨a113.box.x1, a113.box.y1, a113.box.x2, a113.box.y2⟩, wr (a113.ways + a1.ways), wr ((wr (a1.cost + a11.cost)) + c117), kind_, sign_, first_, rest_⟩ : Cell21)) : Sl Cell21)), (AV.ptr o5 1 0 0, .pt 10 [iv a1.box.x1, iv a1.box.y1, iv a1.box.x2, iv a1.box.y2, iv a1.ways, iv a1.cost, iv a1.kind, iv a1.sign, iv a1.first, iv a1.rest]), (AV.ptr o15 1 0 0, .pt 10 [iv a11.box.x1, iv a11.box.y1, iv a11.box.x2, iv a11.box.y2, iv a11.ways, iv a11.cost, iv a11.kind, iv a11.sign, iv a11.first, iv a11.rest]), (AV.ptr o94 1 0 0, .pt 4 [iv a102.box.x1, iv a102.box.y1, iv a102.box.x2, iv a102.box.y2])] := O132
              have O133 : Hold B h131 [(AV.ptr o_ 1 0 0, .pt 2 [Sl.enc c_.list, x_cells_]), (x_cells_, obS ((kB1 c_.cells set_ (⟨⟨a113.box.x1, a113.box.y1, a113.box.x2, a113.box.y2⟩, wr (a113.ways + a1.ways), wr ((wr (a1.cost + a11.cost)) + c117), kind_, sign_, first_, rest_⟩ : Cell21)) : Sl Cell21))] := O132.sel [0, 1] (by decide) rfl
              exact kA8 ⟨_, rfl, O133⟩
            · refine kA1 (v := elp x_cells_ m114 0) (kBm _ _ _) ?_
              refine kA1 (v := elp x_cells_ m114 4) ((O107.tab (A := Cell21) (s := c_.cells) 1 rfl).fld _ _ _) ?_
              refine kA1 (v := iv a113.ways) ((O107.tab (A := Cell21) (s := c_.cells) 1 rfl).ld hm116 false 1 4) ?_
              refine kA1 (v := iv (wr (a113.ways + a1.ways))) (kAd _ _) ?_
              refine kA1 (v := elp x_cells_ m114 0) (kBm _ _ _) ?_
              refine kA1 (v := elp x_cells_ m114 4) ((O107.tab (A := Cell21) (s := c_.cells) 1 rfl).fld _ _ _) ?_
              refine kB6 (A := Cell21) O107 1 (⟨⟨a113.box.x1, a113.box.y1, a113.box.x2, a113.box.y2⟩, wr (a113.ways + a1.ways), a113.cost, a113.kind, a113.sign, a113.first, a113.rest⟩ : Cell21) rfl hi115 hm116 rfl (by simp) (by first | rfl | simp) (by first | rfl | simp [kAi]) (fun h134 O135 => ?_)
              replace O135 : Hold B h134 [(AV.ptr o_ 1 0 0, .pt 2 [Sl.enc c_.list, x_cells_]), (x_cells_, obS ((kB1 c_.cells set_ (⟨⟨a113.box.x1, a113.box.y1, a113.box.x2, a113.box.y2⟩, wr (a113.ways + a1.ways), a113.cost, a113.kind, a113.sign, a113.first, a113.rest⟩ : Cell21)) : Sl Cell21)), (AV.ptr o5 1 0 0, .pt 10 [iv a1.box.x1, iv a1.box.y1, iv a1.box.x2, iv a1.box.y2, iv a1.ways, iv a1.cost, iv a1.kind, iv a1.sign, iv a1.first, iv a1.rest]), (AV.ptr o15 1 0 0, .pt 10 [iv a11.box.x1, iv a11.box.y1, iv a11.box.x2, iv a11.box.y2, iv a11.ways, iv a11.cost, iv a11.kind, iv a11.sign, iv a11.first, iv a11.rest]), (AV.ptr o94 1 0 0, .pt 4 [iv a102.box.x1, iv a102.box.y1, iv a102.box.x2, iv a102.box.y2])] := O135
              have O136 : Hold B h134 [(AV.ptr o_ 1 0 0, .pt 2 [Sl.enc c_.list, x_cells_]), (x_cells_, obS ((kB1 c_.cells set_ (⟨⟨a113.box.x1, a113.box.y1, a113.box.x2, a113.box.y2⟩, wr (a113.ways + a1.ways), a113.cost, a113.kind, a113.sign, a113.first, a113.rest⟩ : Cell21)) : Sl Cell21))] := O135.sel [0, 1] (by decide) rfl
              exact kA8 ⟨_, rfl, O136⟩
    · refine kA1 (v := bv (decide (a1.ways = 0))) (kAv _ _) ?_
      refine kBr (e := bv) (fun hb137 => ?_) (fun c139 => ?_)
      · refine kA1 (v := AV.agg [iv 0, iv 0, iv 0, iv 0]) (O99.ld 4 rfl true 4 0) ?_
        refine kA1 (v := AV.ptr o5 1 0 0) rfl ?_
        refine kA1 (v := AV.agg [iv a1.box.x1, iv a1.box.y1, iv a1.box.x2, iv a1.box.y2]) (O99.ld 2 rfl true 4 0) ?_
        refine kA1 (v := AV.ptr o15 1 0 0) rfl ?_
        refine kA1 (v := AV.agg [iv a11.box.x1, iv a11.box.y1, iv a11.box.x2, iv a11.box.y2]) (O99.ld 3 rfl true 4 0) ?_
        refine kIx he_q64 (kAm _ _) (kAf _ (⟨0, 0, 0, 0⟩ : Box) rfl) (kAf _ a1.box rfl) (kAf _ a11.box rfl) (fun c138 => ?_)
        refine kB4 (kAe (by rfl) _ _) ?_
        refine kA1 (v := bv (!c138)) (kD4 _) ?_
        exact kA8 rfl
      · refine kA1 (v := bv (bif decide (a1.ways = 0) then true else c139)) (kCt _ _ _) ?_
        refine kAc (fun c140 => ?_) (fun c140 => ?_)
        · have O141 : Hold B h98 [(AV.ptr o_ 1 0 0, .pt 2 [Sl.enc c_.list, x_cells_]), (x_cells_, obS (c_.cells : Sl Cell21))] := O99.sel [0, 1] (by decide) rfl
          exact kA8 ⟨_, rfl, O141⟩
        · refine kA1 (v := AV.ptr o_ 1 0 0) rfl ?_
          refine kA1 (v := AV.ptr o_ 1 0 1) rfl ?_
          refine kA1 (v := x_cells_) (O99.ld 0 rfl false 1 1) ?_
          refine kAo (O99.tab (A := Cell21) (s := c_.cells) 1 rfl) (fun m143 a142 hi144 hm145 => ?_)
          refine kA1 (v := AV.ptr o5 1 0 5) rfl ?_
          refine kA1 (v := iv a1.cost) (O99.ld 2 rfl false 1 5) ?_
          refine kA1 (v := AV.ptr o15 1 0 5) rfl ?_
          refine kA1 (v := iv a11.cost) (O99.ld 3 rfl false 1 5) ?_
          refine kA1 (v := iv (wr (a1.cost + a11.cost))) (kAd _ _) ?_
          refine kA1 (v := AV.agg [iv 0, iv 0, iv 0, iv 0]) (O99.ld 4 rfl true 4 0) ?_
          refine kA1 (v := AV.ptr o5 1 0 0) rfl ?_
          refine kA1 (v := AV.agg [iv a1.box.x1, iv a1.box.y1, iv a1.box.x2, iv a1.box.y2]) (O99.ld 2 rfl true 4 0) ?_
          refine kA1 (v := AV.ptr o15 1 0 0) rfl ?_
          refine kA1 (v := AV.agg [iv a11.box.x1, iv a11.box.y1, iv a11.box.x2, iv a11.box.y2]) (O99.ld 3 rfl true 4 0) ?_
          refine kEx he_q66 (kAm _ _) (kAf _ (⟨0, 0, 0, 0⟩ : Box) rfl) (kAf _ a1.box rfl) (kAf _ a11.box rfl) (fun c146 => ?_)
          refine kB4 (kAe (by rfl) _ _) ?_
          refine kA1 (v := iv (wr ((wr (a1.cost + a11.cost)) + c146))) (kAd _ _) ?_
          refine kA1 (v := elp x_cells_ m143 0) (kBm _ _ _) ?_
          refine kA1 (v := elp x_cells_ m143 4) ((O99.tab (A := Cell21) (s := c_.cells) 1 rfl).fld _ _ _) ?_
          refine kA1 (v := iv a142.ways) ((O99.tab (A := Cell21) (s := c_.cells) 1 rfl).ld hm145 false 1 4) ?_
          refine kA1 (v := bv (decide (a142.ways = 0))) (kAv _ _) ?_
          refine kBr (e := bv) (fun hb147 => ?_) (fun c148 => ?_)
          · refine kA1 (v := elp x_cells_ m143 0) (kBm _ _ _) ?_
            refine kA1 (v := elp x_cells_ m143 5) ((O99.tab (A := Cell21) (s := c_.cells) 1 rfl).fld _ _ _) ?_
            refine kA1 (v := iv a142.cost) ((O99.tab (A := Cell21) (s := c_.cells) 1 rfl).ld hm145 false 1 5) ?_
            refine kA1 (v := bv (decide ((wr ((wr (a1.cost + a11.cost)) + c146)) < a142.cost))) (kB8 _ _) ?_
            exact kA8 rfl
          · refine kA1 (v := bv (bif decide (a142.ways = 0) then true else c148)) (kCt _ _ _) ?_
            refine kAc (fun c149 => ?_) (fun c149 => ?_)
            · refine kA1 (v := elp x_cells_ m143 0) (kBm _ _ _) ?_
              refine kA1 (v := elp x_cells_ m143 5) ((O99.tab (A := Cell21) (s := c_.cells) 1 rfl).fld _ _ _) ?_
              refine kB6 (A := Cell21) O99 1 (⟨⟨a142.box.x1, a142.box.y1, a142.box.x2, a142.box.y2⟩, a142.ways, wr ((wr (a1.cost + a11.cost)) + c146), a142.kind, a142.sign, a142.first, a142.rest⟩ : Cell21) rfl hi144 hm145 rfl (by simp) (by first | rfl | simp) (by first | rfl | simp [kAi]) (fun h150 O151 => ?_)
              replace O151 : Hold B h150 [(AV.ptr o_ 1 0 0, .pt 2 [Sl.enc c_.list, x_cells_]), (x_cells_, obS ((kB1 c_.cells set_ (⟨⟨a142.box.x1, a142.box.y1, a142.box.x2, a142.box.y2⟩, a142.ways, wr ((wr (a1.cost + a11.cost)) + c146), a142.kind, a142.sign, a142.first, a142.rest⟩ : Cell21)) : Sl Cell21)), (AV.ptr o5 1 0 0, .pt 10 [iv a1.box.x1, iv a1.box.y1, iv a1.box.x2, iv a1.box.y2, iv a1.ways, iv a1.cost, iv a1.kind, iv a1.sign, iv a1.first, iv a1.rest]), (AV.ptr o15 1 0 0, .pt 10 [iv a11.box.x1, iv a11.box.y1, iv a11.box.x2, iv a11.box.y2, iv a11.ways, iv a11.cost, iv a11.kind, iv a11.sign, iv a11.first, iv a11.rest]), (AV.ptr o94 1 0 0, .pt 4 [iv 0, iv 0, iv 0, iv 0])] := O151
              refine kA1 (v := elp x_cells_ m143 0) (kBm _ _ _) ?_
              refine kA1 (v := elp x_cells_ m143 6) ((O151.tab (A := Cell21) (s := (kB1 c_.cells set_ (⟨⟨a142.box.x1, a142.box.y1, a142.box.x2, a142.box.y2⟩, a142.ways, wr ((wr (a1.cost + a11.cost)) + c146), a142.kind, a142.sign, a142.first, a142.rest⟩ : Cell21))) 1 rfl).fld _ _ _) ?_
              refine kB6 (A := Cell21) O151 1 (⟨⟨a142.box.x1, a142.box.y1, a142.box.x2, a142.box.y2⟩, a142.ways, wr ((wr (a1.cost + a11.cost)) + c146), kind_, a142.sign, a142.first, a142.rest⟩ : Cell21) rfl hi144 (kBs hi144 hm145) rfl (by simp) (by first | rfl | simp) (by first | rfl | simp [kAi]) (fun h152 O153 => ?_)
              rw [kBl] at O153
              replace O153 : Hold B h152 [(AV.ptr o_ 1 0 0, .pt 2 [Sl.enc c_.list, x_cells_]), (x_cells_, obS ((kB1 c_.cells set_ (⟨⟨a142.box.x1, a142.box.y1, a142.box.x2, a142.box.y2⟩, a142.ways, wr ((wr (a1.cost + a11.cost)) + c146), kind_, a142.sign, a142.first, a142.rest⟩ : Cell21)) : Sl Cell21)), (AV.ptr o5 1 0 0, .pt 10 [iv a1.box.x1, iv a1.box.y1, iv a1.box.x2, iv a1.box.y2, iv a1.ways, iv a1.cost, iv a1.kind, iv a1.sign, iv a1.first, iv a1.rest]), (AV.ptr o15 1 0 0, .pt 10 [iv a11.box.x1, iv a11.box.y1, iv a11.box.x2, iv a11.box.y2, iv a11.ways, iv a11.cost, iv a11.kind, iv a11.sign, iv a11.first, iv a11.rest]), (AV.ptr o94 1 0 0, .pt 4 [iv 0, iv 0, iv 0, iv 0])] := O153
              refine kA1 (v := elp x_cells_ m143 0) (kBm _ _ _) ?_
              refine kA1 (v := elp x_cells_ m143 7) ((O153.tab (A := Cell21) (s := (kB1 c_.cells set_ (⟨⟨a142.box.x1, a142.box.y1, a142.box.x2, a142.box.y2⟩, a142.ways, wr ((wr (a1.cost + a11.cost)) + c146), kind_, a142.sign, a142.first, a142.rest⟩ : Cell21))) 1 rfl).fld _ _ _) ?_
              refine kB6 (A := Cell21) O153 1 (⟨⟨a142.box.x1, a142.box.y1, a142.box.x2, a142.box.y2⟩, a142.ways, wr ((wr (a1.cost + a11.cost)) + c146), kind_, sign_, a142.first, a142.rest⟩ : Cell21) rfl hi144 (kBs hi144 hm145) rfl (by simp) (by first | rfl | simp) (by first | rfl | simp [kAi]) (fun h154 O155 => ?_)
              rw [kBl] at O155
              replace O155 : Hold B h154 [(AV.ptr o_ 1 0 0, .pt 2 [Sl.enc c_.list, x_cells_]), (x_cells_, obS ((kB1 c_.cells set_ (⟨⟨a142.box.x1, a142.box.y1, a142.box.x2, a142.box.y2⟩, a142.ways, wr ((wr (a1.cost + a11.cost)) + c146), kind_, sign_, a142.first, a142.rest⟩ : Cell21)) : Sl Cell21)), (AV.ptr o5 1 0 0, .pt 10 [iv a1.box.x1, iv a1.box.y1, iv a1.box.x2, iv a1.box.y2, iv a1.ways, iv a1.cost, iv a1.kind, iv a1.sign, iv a1.first, iv a1.rest]), (AV.ptr o15 1 0 0, .pt 10 [iv a11.box.x1, iv a11.box.y1, iv a11.box.x2, iv a11.box.y2, iv a11.ways, iv a11.cost, iv a11.kind, iv a11.sign, iv a11.first, iv a11.rest]), (AV.ptr o94 1 0 0, .pt 4 [iv 0, iv 0, iv 0, iv 0])] := O155
              refine kA1 (v := elp x_cells_ m143 0) (kBm _ _ _) ?_
              refine kA1 (v := elp x_cells_ m143 8) ((O155.tab (A := Cell21) (s := (kB1 c_.cells set_ (⟨⟨a142.box.x1, a142.box.y1, a142.box.x2, a142.box.y2⟩, a142.ways, wr ((wr (a1.cost + a11.cost)) + c146), kind_, sign_, a142.first, a142.rest⟩ : Cell21))) 1 rfl).fld _ _ _) ?_
              refine kB6 (A := Cell21) O155 1 (⟨⟨a142.box.x1, a142.box.y1, a142.box.x2, a142.box.y2⟩, a142.ways, wr ((wr (a1.cost + a11.cost)) + c146), kind_, sign_, first_, a142.rest⟩ : Cell21) rfl hi144 (kBs hi144 hm145) rfl (by simp) (by first | rfl | simp) (by first | rfl | simp [kAi]) (fun h156 O157 => ?_)
              rw [kBl] at O157
              replace O157 : Hold B h156 [(AV.ptr o_ 1 0 0, .pt 2 [Sl.enc c_.list, x_cells_]), (x_cells_, obS ((kB1 c_.cells set_ (⟨⟨a142.box.x1, a142.box.y1, a142.box.x2, a142.box.y2⟩, a142.ways, wr ((wr (a1.cost + a11.cost)) + c146), kind_, sign_, first_, a142.rest⟩ : Cell21)) : Sl Cell21)), (AV.ptr o5 1 0 0, .pt 10 [iv a1.box.x1, iv a1.box.y1, iv a1.box.x2, iv a1.box.y2, iv a1.ways, iv a1.cost, iv a1.kind, iv a1.sign, iv a1.first, iv a1.rest]), (AV.ptr o15 1 0 0, .pt 10 [iv a11.box.x1, iv a11.box.y1, iv a11.box.x2, iv a11.box.y2, iv a11.ways, iv a11.cost, iv a11.kind, iv a11.sign, iv a11.first, iv a11.rest]), (AV.ptr o94 1 0 0, .pt 4 [iv 0, iv 0, iv 0, iv 0])] := O157
              refine kA1 (v := elp x_cells_ m143 0) (kBm _ _ _) ?_
              refine kA1 (v := elp x_cells_ m143 9) ((O157.tab (A := Cell21) (s := (kB1 c_.cells set_ (⟨⟨a142.box.x1, a142.box.y1, a142.box.x2, a142.box.y2⟩, a142.ways, wr ((wr (a1.cost + a11.cost)) + c146), kind_, sign_, first_, a142.rest⟩ : Cell21))) 1 rfl).fld _ _ _) ?_
              refine kB6 (A := Cell21) O157 1 (⟨⟨a142.box.x1, a142.box.y1, a142.box.x2, a142.box.y2⟩, a142.ways, wr ((wr (a1.cost + a11.cost)) + c146), kind_, sign_, first_, rest_⟩ : Cell21) rfl hi144 (kBs hi144 hm145) rfl (by simp) (by first | rfl | simp) (by first | rfl | simp [kAi]) (fun h158 O159 => ?_)
              rw [kBl] at O159
              replace O159 : Hold B h158 [(AV.ptr o_ 1 0 0, .pt 2 [Sl.enc c_.list, x_cells_]), (x_cells_, obS ((kB1 c_.cells set_ (⟨⟨a142.box.x1, a142.box.y1, a142.box.x2, a142.box.y2⟩, a142.ways, wr ((wr (a1.cost + a11.cost)) + c146), kind_, sign_, first_, rest_⟩ : Cell21)) : Sl Cell21)), (AV.ptr o5 1 0 0, .pt 10 [iv a1.box.x1, iv a1.box.y1, iv a1.box.x2, iv a1.box.y2, iv a1.ways, iv a1.cost, iv a1.kind, iv a1.sign, iv a1.first, iv a1.rest]), (AV.ptr o15 1 0 0, .pt 10 [iv a11.box.x1, iv a11.box.y1, iv a11.box.x2, iv a11.box.y2, iv a11.ways, iv a11.cost, iv a11.kind, iv a11.sign, iv a11.first, iv a11.rest]), (AV.ptr o94 1 0 0, .pt 4 [iv 0, iv 0, iv 0, iv 0])] := O159
              refine kA1 (v := elp x_cells_ m143 0) (kBm _ _ _) ?_
              refine kA1 (v := elp x_cells_ m143 4) ((O159.tab (A := Cell21) (s := (kB1 c_.cells set_ (⟨⟨a142.box.x1, a142.box.y1, a142.box.x2, a142.box.y2⟩, a142.ways, wr ((wr (a1.cost + a11.cost)) + c146), kind_, sign_, first_, rest_⟩ : Cell21))) 1 rfl).fld _ _ _) ?_
              refine kA1 (v := iv a142.ways) ((O159.tab (A := Cell21) (s := (kB1 c_.cells set_ (⟨⟨a142.box.x1, a142.box.y1, a142.box.x2, a142.box.y2⟩, a142.ways, wr ((wr (a1.cost + a11.cost)) + c146), kind_, sign_, first_, rest_⟩ : Cell21))) 1 rfl).ld (kBs hi144 hm145) false 1 4) ?_
              refine kA1 (v := iv (wr (a142.ways + a1.ways))) (kAd _ _) ?_
              refine kA1 (v := elp x_cells_ m143 0) (kBm _ _ _) ?_
              refine kA1 (v := elp x_cells_ m143 4) ((O159.tab (A := Cell21) (s := (kB1 c_.cells set_ (⟨⟨a142.box.x1, a142.box.y1, a142.box.x2, a142.box.y2⟩, a142.ways, wr ((wr (a1.cost + a11.cost)) + c146), kind_, sign_, first_, rest_⟩ : Cell21))) 1 rfl).fld _ _ _) ?_
              refine kB6 (A := Cell21) O159 1 (⟨⟨a142.box.x1, a142.box.y1, a142.box.x2, a142.box.y2⟩, wr (a142.ways + a1.ways), wr ((wr (a1.cost + a11.cost)) + c146), kind_, sign_, first_, rest_⟩ : Cell21) rfl hi144 (kBs hi144 hm145) rfl (by simp) (by first | rfl | simp) (by first | rfl | simp [kAi]) (fun h160 O161 => ?_)
              rw [kBl] at O161
              replace O161 : Hold B h160 [(AV.ptr o_ 1 0 0, .pt 2 [Sl.enc c_.list, x_cells_]), (x_cells_, obS ((kB1 c_.cells set_ (⟨⟨a142.box.x1, a142.box.y1, a142.box.x2, a142.box.y2⟩, wr (a142.ways + a1.ways), wr ((wr (a1.cost + a11.cost)) + c146), kind_, sign_, first_, rest_⟩ : Cell21)) : Sl Cell21)), (AV.ptr o5 1 0 0, .pt 10 [iv a1.box.x1, iv a1.box.y1, iv a1.box.x2, iv a1.box.y2, iv a1.ways, iv a1.cost, iv a1.kind, iv a1.sign, iv a1.first, iv a1.rest]), (AV.ptr o15 1 0 0, .pt 10 [iv a11.box.x1, iv a11.box.y1, iv a11.box.x2, iv a11.box.y2, iv a11.ways, iv a11.cost, iv a11.kind, iv a11.sign, iv a11.first, iv a11.rest]), (AV.ptr o94 1 0 0, .pt 4 [iv 0, iv 0, iv 0, iv 0])] := O161
              have O162 : Hold B h160 [(AV.ptr o_ 1 0 0, .pt 2 [Sl.enc c_.list, x_cells_]), (x_cells_, obS ((kB1 c_.cells set_ (⟨⟨a142.box.x1, a142.box.y1, a142.box.x2, a142.box.y2⟩, wr (a142.ways + a1.ways), wr ((wr (a1.cost + a11.cost)) + c146), kind_, sign_, first_, rest_⟩ : Cell21)) : Sl Cell21))] := O161.sel [0, 1] (by decide) rfl
              exact kA8 ⟨_, rfl, O162⟩
            · refine kA1 (v := elp x_cells_ m143 0) (kBm _ _ _) ?_
              refine kA1 (v := elp x_cells_ m143 4) ((O99.tab (A := Cell21) (s := c_.cells) 1 rfl).fld _ _ _) ?_
              refine kA1 (v := iv a142.ways) ((O99.tab (A := Cell21) (s := c_.cells) 1 rfl).ld hm145 false 1 4) ?_
              refine kA1 (v := iv (wr (a142.ways + a1.ways))) (kAd _ _) ?_
              refine kA1 (v := elp x_cells_ m143 0) (kBm _ _ _) ?_
              refine kA1 (v := elp x_cells_ m143 4) ((O99.tab (A := Cell21) (s := c_.cells) 1 rfl).fld _ _ _) ?_
              refine kB6 (A := Cell21) O99 1 (⟨⟨a142.box.x1, a142.box.y1, a142.box.x2, a142.box.y2⟩, wr (a142.ways + a1.ways), a142.cost, a142.kind, a142.sign, a142.first, a142.rest⟩ : Cell21) rfl hi144 hm145 rfl (by simp) (by first | rfl | simp) (by first | rfl | simp [kAi]) (fun h163 O164 => ?_)
              replace O164 : Hold B h163 [(AV.ptr o_ 1 0 0, .pt 2 [Sl.enc c_.list, x_cells_]), (x_cells_, obS ((kB1 c_.cells set_ (⟨⟨a142.box.x1, a142.box.y1, a142.box.x2, a142.box.y2⟩, wr (a142.ways + a1.ways), a142.cost, a142.kind, a142.sign, a142.first, a142.rest⟩ : Cell21)) : Sl Cell21)), (AV.ptr o5 1 0 0, .pt 10 [iv a1.box.x1, iv a1.box.y1, iv a1.box.x2, iv a1.box.y2, iv a1.ways, iv a1.cost, iv a1.kind, iv a1.sign, iv a1.first, iv a1.rest]), (AV.ptr o15 1 0 0, .pt 10 [iv a11.box.x1, iv a11.box.y1, iv a11.box.x2, iv a11.box.y2, iv a11.ways, iv a11.cost, iv a11.kind, iv a11.sign, iv a11.first, iv a11.rest]), (AV.ptr o94 1 0 0, .pt 4 [iv 0, iv 0, iv 0, iv 0])] := O164
              have O165 : Hold B h163 [(AV.ptr o_ 1 0 0, .pt 2 [Sl.enc c_.list, x_cells_]), (x_cells_, obS ((kB1 c_.cells set_ (⟨⟨a142.box.x1, a142.box.y1, a142.box.x2, a142.box.y2⟩, wr (a142.ways + a1.ways), a142.cost, a142.kind, a142.sign, a142.first, a142.rest⟩ : Cell21)) : Sl Cell21))] := O164.sel [0, 1] (by decide) rfl
              exact kA8 ⟨_, rfl, O165⟩
noncomputable def kGr : Nat → Contract := kC4 [(n_q64, .pure (C4 (fun c : Bool => enc c) t_q64)), (n_q65, .pure (C1 (fun c : ByteArray => enc c) kIt)), (n_q66, .pure (C4 (fun c : Int => enc c) t_q66))]
theorem kEt : kBz Try.prog kGr := (kCq tt_q64 (kCq tt_q65 (kCq tt_q66 E0)))
theorem tg_q62 {B : Base} {h : kA6} {o_ : Nat} {x_cells_ : AV} (c_ : Chart21) (set_ : Int) (kind_ : Int) (sign_ : Int) (first_ : Int) (rest_ : Int) (O : Hold B h [(AV.ptr o_ 1 0 0, .pt 2 [Sl.enc c_.list, x_cells_]), (x_cells_, obS (c_.cells : Sl Cell21))]) : Sim (kAh Try.prog kGr kGy [AV.ptr o_ 1 0 0, iv set_, iv kind_, iv sign_, iv first_, iv rest_] h) (t_q62 c_ set_ kind_ sign_ first_ rest_) (fun c p => ∃ x1, p.1 = und ∧ Hold B p.2 ([(AV.ptr o_ 1 0 0, .pt 2 [Sl.enc c.list, x1]), (x1, obS (c.cells : Sl Cell21))])) := ts_q62 kGr (by simp [kGr, kC4]) (by simp [kGr, kC4]) (by simp [kGr, kC4]) c_ set_ kind_ sign_ first_ rest_  O
def s0_q60 (set_ : Int) (kind_ : Int) (sign_ : Int) (parts_ : Int) : ((Sl Symbol) × (Sl Cell21) × Int) → Option (Sum ((Sl Symbol) × (Sl Cell21) × Int) ((Sl Symbol) × (Sl Cell21))) := fun (w1, w3, w6) =>
  bif decide (w6 < parts_) then
    bif decide (kF3 w6 parts_ = w6) then
      kA0 (t_q62 (⟨w1, w3⟩ : Chart21) set_ kind_ sign_ w6 (kC3 parts_ w6)) fun c17 =>
      some (.inl (c17.list, c17.cells, wr (w6 + 1)))
    else
      some (.inl (w1, w3, wr (w6 + 1)))
  else
    some (.inr (w1, w3))
def t_q60 (c_ : Chart21) (set_ : Int) (kind_ : Int) (sign_ : Int) (parts_ : Int) : Option Chart21 :=
  kA0 (kBq (s0_q60 set_ kind_ sign_ parts_) (c_.list, c_.cells, 1)) fun (q9, q11) =>
  some (⟨q9, q11⟩ : Chart21)
theorem tl0_q60 (env : Nat → Contract) {B : Base} (he_q62 : env kGy = .gen (kAh Try.prog kGr kGy)) (o_ : Nat) (set_ : Int) (kind_ : Int) (sign_ : Int) (parts_ : Int)  {st : (Sl Symbol) × (Sl Cell21) × Int} {tm : TM} {h : kA6} (R : (fun (st : (Sl Symbol) × (Sl Cell21) × Int) tm h4 => match st with | (w1, w3, w6) => ∃ z2, tm = [AV.ptr o_ 1 0 0, iv set_, iv kind_, iv sign_, iv parts_, und, und, und, und, und, iv w6, .top, .top, .top, .top, .top, .top, .top, .top, .top, .top, .top, .top, .top, .top, .top, .top, .top, .top, .top] ∧ Hold B h4 [(AV.ptr o_ 1 0 0, .pt 2 [Sl.enc w1, z2]), (z2, obS (w3 : Sl Cell21))]) st tm h) : Sim (kBx hm0_q60 xm0_q60 (lb0_q60 env) tm h) (kBq (s0_q60 set_ kind_ sign_ parts_) st) (fun (q : (Sl Symbol) × (Sl Cell21)) (r : Res) => match q with | (q9, q11) => ∃ (q12 : Int) (z10 : AV) (h7 : kA6), r = (.exit 0, [AV.ptr o_ 1 0 0, iv set_, iv kind_, iv sign_, iv parts_, und, und, und, und, und, iv q12, .top, .top, .top, .top, .top, .top, .top, .top, .top, .top, .top, .top, .top, .top, .top, .top, .top, .top, .top], h7) ∧ Hold B h7 [(AV.ptr o_ 1 0 0, .pt 2 [Sl.enc q9, z10]), (z10, obS (q11 : Sl Cell21))]) := by
  refine kCe (Rel := fun (st : (Sl Symbol) × (Sl Cell21) × Int) tm h4 => match st with | (w1, w3, w6) => ∃ z2, tm = [AV.ptr o_ 1 0 0, iv set_, iv kind_, iv sign_, iv parts_, und, und, und, und, und, iv w6, .top, .top, .top, .top, .top, .top, .top, .top, .top, .top, .top, .top, .top, .top, .top, .top, .top, .top, .top] ∧ Hold B h4 [(AV.ptr o_ 1 0 0, .pt 2 [Sl.enc w1, z2]), (z2, obS (w3 : Sl Cell21))]) (fun st tm h4 R => ?_) R
  obtain ⟨w1, w3, w6⟩ := st
  obtain ⟨z2, rfl, O5⟩ := R
  rw [e_lb0_q60]
  unfold s0_q60
  dsimp only
  refine kA1 (v := bv (decide (w6 < parts_))) (kB8 _ _) ?_
  refine kAc (fun c14 => ?_) (fun c14 => ?_)
  · refine kA1 (v := iv (kF3 w6 parts_)) (kGb _ _) ?_
    refine kA1 (v := bv (decide (kF3 w6 parts_ = w6))) (kAv _ _) ?_
    refine kAc (fun c15 => ?_) (fun c15 => ?_)
    · refine kA1 (v := iv (kC3 parts_ w6)) (kG3 _ _) ?_
      have O16 := O5
      refine kCj he_q62 (tg_q62 (⟨w1, w3⟩ : Chart21) set_ kind_ sign_ w6 (kC3 parts_ w6) (Hold.startL (L := [(AV.ptr o_ 1 0 0, .pt 2 [Sl.enc w1, z2]), (z2, obS (w3 : Sl Cell21))]) (R := []) O16)) (fun c17 v18 h19 hq20 => ?_)
      obtain ⟨x23, e_v18, O21⟩ := hq20
      dsimp only at e_v18
      subst v18
      have O22 : Hold B h19 [(AV.ptr o_ 1 0 0, .pt 2 [Sl.enc c17.list, x23]), (x23, obS (c17.cells : Sl Cell21))] := Hold.mergeL (L := [(AV.ptr o_ 1 0 0, .pt 2 [Sl.enc w1, z2]), (z2, obS (w3 : Sl Cell21))]) (R := []) O16 O21
      refine kA1 (v := iv (wr (w6 + 1))) (kAd _ _) ?_
      exact kA8 ⟨rfl, _, rfl, O22⟩
    · refine kA1 (v := iv (wr (w6 + 1))) (kAd _ _) ?_
      exact kA8 ⟨rfl, _, rfl, O5⟩
  · exact kA8 ⟨nofun, _, _, _, rfl, O5⟩
theorem ts_q60 (env : Nat → Contract) (he_q62 : env kGy = .gen (kAh Try.prog kGr kGy)) {B : Base} {h : kA6} {o_ : Nat} {x_cells_ : AV} (c_ : Chart21) (set_ : Int) (kind_ : Int) (sign_ : Int) (parts_ : Int) (O : Hold B h [(AV.ptr o_ 1 0 0, .pt 2 [Sl.enc c_.list, x_cells_]), (x_cells_, obS (c_.cells : Sl Cell21))]) : Sim (kAh Try.prog env kFy [AV.ptr o_ 1 0 0, iv set_, iv kind_, iv sign_, iv parts_] h) (t_q60 c_ set_ kind_ sign_ parts_) (fun c p => ∃ x1, p.1 = und ∧ Hold B p.2 ([(AV.ptr o_ 1 0 0, .pt 2 [Sl.enc c.list, x1]), (x1, obS (c.cells : Sl Cell21))])) := by
  rw [e_q60]
  unfold t_q60
  refine kCd ((tl0_q60 env he_q62 o_ set_ kind_ sign_ parts_) ⟨_, rfl, O⟩) (fun qq29 r hq => ?_)
  obtain ⟨q9, q11⟩ := qq29
  obtain ⟨q12, z10, h7, rfl, O8⟩ := hq
  rw [e_lk0x0_q60]
  exact kA8 ⟨_, rfl, O8⟩
noncomputable def kI8 : Nat → Contract := kC4 [(kGy, .gen (kAh Try.prog kGr kGy))]
theorem kEc : kBz Try.prog kI8 := (kE5 (kBk kEt kBh hb_q62) E0)
theorem tg_q60 {B : Base} {h : kA6} {o_ : Nat} {x_cells_ : AV} (c_ : Chart21) (set_ : Int) (kind_ : Int) (sign_ : Int) (parts_ : Int) (O : Hold B h [(AV.ptr o_ 1 0 0, .pt 2 [Sl.enc c_.list, x_cells_]), (x_cells_, obS (c_.cells : Sl Cell21))]) : Sim (kAh Try.prog kI8 kFy [AV.ptr o_ 1 0 0, iv set_, iv kind_, iv sign_, iv parts_] h) (t_q60 c_ set_ kind_ sign_ parts_) (fun c p => ∃ x1, p.1 = und ∧ Hold B p.2 ([(AV.ptr o_ 1 0 0, .pt 2 [Sl.enc c.list, x1]), (x1, obS (c.cells : Sl Cell21))])) := ts_q60 kI8 (by simp [kI8, kC4]) c_ set_ kind_ sign_ parts_  O
def kJc (set_ : Int) (kind_ : Int) : ((Sl Symbol) × (Sl Cell21) × Int) → Option (Sum ((Sl Symbol) × (Sl Cell21) × Int) ((Sl Symbol) × (Sl Cell21))) := fun (w1, w3, w6) =>
  bif decide (w6 < (((w1.getD []).length : Nat) : Int)) then
    kA0 (shlO 1 w6) fun q16 =>
    kA0 (bif decide (kC3 set_ q16 = set_) then some false else (kA0 (kCo (w1.getD []) w6) fun a18 => kA0 (kIt kind_) fun c22 => some (!decide (a18.label = c22)))) fun c23 =>
    bif (bif decide (kC3 set_ q16 = set_) then true else c23) then
      some (.inl (w1, w3, wr (w6 + 1)))
    else
      bif decide (kind_ = 5) then
        kA0 (t_q62 (⟨w1, w3⟩ : Chart21) set_ kind_ w6 (kC3 set_ q16) 0) fun c38 =>
        some (.inl (c38.list, c38.cells, wr (w6 + 1)))
      else
        kA0 (t_q60 (⟨w1, w3⟩ : Chart21) set_ kind_ w6 (kC3 set_ q16)) fun c48 =>
        some (.inl (c48.list, c48.cells, wr (w6 + 1)))
  else
    some (.inr (w1, w3))
def t_q59 (c_ : Chart21) (set_ : Int) (kind_ : Int) : Option Chart21 :=
  kA0 (kBq (kJc set_ kind_) (c_.list, c_.cells, 0)) fun (q9, q11) =>
  some (⟨q9, q11⟩ : Chart21)
theorem tl0_q59 (env : Nat → Contract) {B : Base} (he_q60 : env kFy = .gen (kAh Try.prog kI8 kFy)) (he_q62 : env kGy = .gen (kAh Try.prog kGr kGy)) (he_q65 : env n_q65 = .pure (C1 (fun c : ByteArray => enc c) kIt)) (o_ : Nat) (set_ : Int) (kind_ : Int)  {st : (Sl Symbol) × (Sl Cell21) × Int} {tm : TM} {h : kA6} (R : (fun (st : (Sl Symbol) × (Sl Cell21) × Int) tm h4 => match st with | (w1, w3, w6) => ∃ z2, tm = [AV.ptr o_ 1 0 0, iv set_, iv kind_, und, und, und, iv w6, .top, .top, .top, .top, .top, .top, .top, .top, .top, .top, .top, .top, .top, .top, .top, .top, .top, .top, .top, .top, .top, .top, .top, .top, .top, .top, .top, .top, .top, .top, .top, .top, .top, .top, .top, .top, .top, .top, .top, .top, .top, .top, .top, .top] ∧ Hold B h4 [(AV.ptr o_ 1 0 0, .pt 2 [Sl.enc w1, z2]), (z2, obS (w3 : Sl Cell21))]) st tm h) : Sim (kBx hm0_q59 xm0_q59 (lb0_q59 env) tm h) (kBq (kJc set_ kind_) st) (fun (q : (Sl Symbol) × (Sl Cell21)) (r : Res) => match q with | (q9, q11) => ∃ (q12 : Int) (z10 : AV) (z13 : AV) (h7 : kA6), r = (.exit 0, [AV.ptr o_ 1 0 0, iv set_, iv kind_, und, und, und, iv q12, z13, .top, .top, .top, .top, .top, .top, .top, .top, .top, .top, .top, .top, .top, .top, .top, .top, .top, .top, .top, .top, .top, .top, .top, .top, .top, .top, .top, .top, .top, .top, .top, .top, .top, .top, .top, .top, .top, .top, .top, .top, .top, .top, .top], h7) ∧ Hold B h7 [(AV.ptr o_ 1 0 0, .pt 2 [Sl.enc q9, z10]), (z10, obS (q11 : Sl Cell21))]) := by
  refine kCe (Rel := fun (st : (Sl Symbol) × (Sl Cell21) × Int) tm h4 => match st with | (w1, w3, w6) => ∃ z2, tm = [AV.ptr o_ 1 0 0, iv set_, iv kind_, und, und, und, iv w6, .top, .top, .top, .top, .top, .top, .top, .top, .top, .top, .top, .top, .top, .top, .top, .top, .top, .top, .top, .top, .top, .top, .top, .top, .top, .top, .top, .top, .top, .top, .top, .top, .top, .top, .top, .top, .top, .top, .top, .top, .top, .top, .top, .top] ∧ Hold B h4 [(AV.ptr o_ 1 0 0, .pt 2 [Sl.enc w1, z2]), (z2, obS (w3 : Sl Cell21))]) (fun st tm h4 R => ?_) R
  obtain ⟨w1, w3, w6⟩ := st
  obtain ⟨z2, rfl, O5⟩ := R
  rw [e_lb0_q59]
  unfold kJc
  dsimp only
  refine kA1 (v := AV.ptr o_ 1 0 0) rfl ?_
  refine kA1 (v := AV.ptr o_ 1 0 0) rfl ?_
  refine kA1 (v := Sl.enc w1) (O5.ld 0 rfl false 1 0) ?_
  refine kA1 (v := iv (((w1.getD []).length : Nat) : Int)) (Tab.enc h4 w1).len ?_
  refine kA1 (v := bv (decide (w6 < (((w1.getD []).length : Nat) : Int)))) (kB8 _ _) ?_
  refine kAc (fun c15 => ?_) (fun c15 => ?_)
  · refine sim_shl (fun q16 => ?_)
    refine kA1 (v := iv (kC3 set_ q16)) (kG3 _ _) ?_
    refine kA1 (v := bv (decide (kC3 set_ q16 = set_))) (kAv _ _) ?_
    refine sim_g11F (e := bv) (fun hb17 => ?_) (fun y24 y25 y26 y27 y28 y29 y30 y31 y32 y33 c23 => ?_)
    · refine kBp ?_
      refine kCh ?_
      refine kA1 (v := AV.ptr o_ 1 0 0) rfl ?_
      refine kBp ?_
      refine kCh ?_
      refine kA1 (v := AV.ptr o_ 1 0 0) rfl ?_
      refine kBp ?_
      refine kCh ?_
      refine kA1 (v := Sl.enc w1) (O5.ld 0 rfl false 1 0) ?_
      refine kBp ?_
      refine kBp ?_
      refine kCh ?_
      refine kAo (Tab.enc h4 w1) (fun m19 a18 hi20 hm21 => ?_)
      refine kBp ?_
      refine kCh ?_
      refine kA1 (v := elp (Sl.enc w1) m19 0) ((Tab.enc h4 w1).fld _ _ _) ?_
      refine kBp ?_
      refine kCh ?_
      refine kA1 (v := sv a18.label) ((Tab.enc h4 w1).ld hm21 false 1 0) ?_
      refine kBp ?_
      refine kBp ?_
      refine sim_o2 ?_
      refine sim_callQ1 he_q65 (kAm _ _) (fun c22 => ?_)
      refine kB4 (kAe (by rfl) _ _) ?_
      refine kBp ?_
      refine kA1 (v := bv (!decide (a18.label = c22))) (aCmp_neS _ _) ?_
      exact kA8 rfl
    · refine kA1 (v := bv (bif decide (kC3 set_ q16 = set_) then true else c23)) (kCt _ _ _) ?_
      refine kAc (fun c34 => ?_) (fun c34 => ?_)
      · refine kA1 (v := iv (wr (w6 + 1))) (kAd _ _) ?_
        exact kA8 ⟨rfl, _, rfl, O5⟩
      · refine kA1 (v := bv (decide (kind_ = 5))) (kAv _ _) ?_
        refine kAc (fun c36 => ?_) (fun c36 => ?_)
        · have O37 := O5
          refine kCj he_q62 (tg_q62 (⟨w1, w3⟩ : Chart21) set_ kind_ w6 (kC3 set_ q16) 0 (Hold.startL (L := [(AV.ptr o_ 1 0 0, .pt 2 [Sl.enc w1, z2]), (z2, obS (w3 : Sl Cell21))]) (R := []) O37)) (fun c38 v39 h40 hq41 => ?_)
          obtain ⟨x44, e_v39, O42⟩ := hq41
          dsimp only at e_v39
          subst v39
          have O43 : Hold B h40 [(AV.ptr o_ 1 0 0, .pt 2 [Sl.enc c38.list, x44]), (x44, obS (c38.cells : Sl Cell21))] := Hold.mergeL (L := [(AV.ptr o_ 1 0 0, .pt 2 [Sl.enc w1, z2]), (z2, obS (w3 : Sl Cell21))]) (R := []) O37 O42
          refine kA1 (v := iv (wr (w6 + 1))) (kAd _ _) ?_
          exact kA8 ⟨rfl, _, rfl, O43⟩
        · have O47 := O5
          refine kCj he_q60 (tg_q60 (⟨w1, w3⟩ : Chart21) set_ kind_ w6 (kC3 set_ q16) (Hold.startL (L := [(AV.ptr o_ 1 0 0, .pt 2 [Sl.enc w1, z2]), (z2, obS (w3 : Sl Cell21))]) (R := []) O47)) (fun c48 v49 h50 hq51 => ?_)
          obtain ⟨x54, e_v49, O52⟩ := hq51
          dsimp only at e_v49
          subst v49
          have O53 : Hold B h50 [(AV.ptr o_ 1 0 0, .pt 2 [Sl.enc c48.list, x54]), (x54, obS (c48.cells : Sl Cell21))] := Hold.mergeL (L := [(AV.ptr o_ 1 0 0, .pt 2 [Sl.enc w1, z2]), (z2, obS (w3 : Sl Cell21))]) (R := []) O47 O52
          refine kA1 (v := iv (wr (w6 + 1))) (kAd _ _) ?_
          exact kA8 ⟨rfl, _, rfl, O53⟩
  · exact kA8 ⟨nofun, _, _, _, _, rfl, O5⟩
theorem ts_q59 (env : Nat → Contract) (he_q60 : env kFy = .gen (kAh Try.prog kI8 kFy)) (he_q62 : env kGy = .gen (kAh Try.prog kGr kGy)) (he_q65 : env n_q65 = .pure (C1 (fun c : ByteArray => enc c) kIt)) {B : Base} {h : kA6} {o_ : Nat} {x_cells_ : AV} (c_ : Chart21) (set_ : Int) (kind_ : Int) (O : Hold B h [(AV.ptr o_ 1 0 0, .pt 2 [Sl.enc c_.list, x_cells_]), (x_cells_, obS (c_.cells : Sl Cell21))]) : Sim (kAh Try.prog env n_q59 [AV.ptr o_ 1 0 0, iv set_, iv kind_] h) (t_q59 c_ set_ kind_) (fun c p => ∃ x1, p.1 = und ∧ Hold B p.2 ([(AV.ptr o_ 1 0 0, .pt 2 [Sl.enc c.list, x1]), (x1, obS (c.cells : Sl Cell21))])) := by
  rw [e_q59]
  unfold t_q59
  refine kCd ((tl0_q59 env he_q60 he_q62 he_q65 o_ set_ kind_) ⟨_, rfl, O⟩) (fun qq59 r hq => ?_)
  obtain ⟨q9, q11⟩ := qq59
  obtain ⟨q12, z10, z13, h7, rfl, O8⟩ := hq
  rw [e_lk0x0_q59]
  exact kA8 ⟨_, rfl, O8⟩
noncomputable def kIw : Nat → Contract := kC4 [(kFy, .gen (kAh Try.prog kI8 kFy)), (kGy, .gen (kAh Try.prog kGr kGy)), (n_q65, .pure (C1 (fun c : ByteArray => enc c) kIt))]
theorem kGw : kBz Try.prog kIw := (kE5 (kBk kEc kBh hb_q60) (kE5 (kBk kEt kBh hb_q62) (kCq tt_q65 E0)))
theorem tg_q59 {B : Base} {h : kA6} {o_ : Nat} {x_cells_ : AV} (c_ : Chart21) (set_ : Int) (kind_ : Int) (O : Hold B h [(AV.ptr o_ 1 0 0, .pt 2 [Sl.enc c_.list, x_cells_]), (x_cells_, obS (c_.cells : Sl Cell21))]) : Sim (kAh Try.prog kIw n_q59 [AV.ptr o_ 1 0 0, iv set_, iv kind_] h) (t_q59 c_ set_ kind_) (fun c p => ∃ x1, p.1 = und ∧ Hold B p.2 ([(AV.ptr o_ 1 0 0, .pt 2 [Sl.enc c.list, x1]), (x1, obS (c.cells : Sl Cell21))])) := ts_q59 kIw (by simp [kIw, kC4]) (by simp [kIw, kC4]) (by simp [kIw, kC4]) c_ set_ kind_  O
def kJa (c_ : Chart21) (set_ : Int) : ((Sl Cell21) × Int × Int) → Option (Sum ((Sl Cell21) × Int × Int) ((Sl Cell21) × Int)) := fun (w1, w4, w5) =>
  bif decide (w5 < (((c_.list.getD []).length : Nat) : Int)) then
    kA0 (shrO set_ w5) fun q66 =>
    bif decide (kF3 q66 1 = 0) then
      some (.inl (w1, w4, wr (w5 + 1)))
    else
      bif decide (w4 = 0) then
        kA0 (kCo (c_.list.getD []) w5) fun a70 =>
        kA0 (kCo (w1.getD []) set_) fun a74 =>
        kA0 (kCo ((kB1 w1 set_ (⟨⟨a70.box.x1, a70.box.y1, a70.box.x2, a70.box.y2⟩, a74.ways, a74.cost, a74.kind, a74.sign, a74.first, a74.rest⟩ : Cell21)).getD []) set_) fun a80 =>
        kA0 (kCo (c_.list.getD []) w5) fun a84 =>
        kA0 (some (kBi a80.box a84.box)) fun c88 =>
        kA0 (kCo ((kB1 w1 set_ (⟨⟨a70.box.x1, a70.box.y1, a70.box.x2, a70.box.y2⟩, a74.ways, a74.cost, a74.kind, a74.sign, a74.first, a74.rest⟩ : Cell21)).getD []) set_) fun a89 =>
        kA0 (kCo ((kB1 (kB1 w1 set_ (⟨⟨a70.box.x1, a70.box.y1, a70.box.x2, a70.box.y2⟩, a74.ways, a74.cost, a74.kind, a74.sign, a74.first, a74.rest⟩ : Cell21)) set_ (⟨⟨c88.x1, c88.y1, c88.x2, c88.y2⟩, a89.ways, a89.cost, a89.kind, a89.sign, a89.first, a89.rest⟩ : Cell21)).getD []) set_) fun a95 =>
        some (.inl ((kB1 (kB1 (kB1 w1 set_ (⟨⟨a70.box.x1, a70.box.y1, a70.box.x2, a70.box.y2⟩, a74.ways, a74.cost, a74.kind, a74.sign, a74.first, a74.rest⟩ : Cell21)) set_ (⟨⟨c88.x1, c88.y1, c88.x2, c88.y2⟩, a89.ways, a89.cost, a89.kind, a89.sign, a89.first, a89.rest⟩ : Cell21)) set_ (⟨⟨a95.box.x1, a95.box.y1, a95.box.x2, a95.box.y2⟩, a95.ways, a95.cost, a95.kind, w5, a95.first, a95.rest⟩ : Cell21)), wr (w4 + 1), wr (w5 + 1)))
      else
        kA0 (kCo (w1.getD []) set_) fun a102 =>
        kA0 (kCo (c_.list.getD []) w5) fun a106 =>
        kA0 (some (kBi a102.box a106.box)) fun c110 =>
        kA0 (kCo (w1.getD []) set_) fun a111 =>
        kA0 (kCo ((kB1 w1 set_ (⟨⟨c110.x1, c110.y1, c110.x2, c110.y2⟩, a111.ways, a111.cost, a111.kind, a111.sign, a111.first, a111.rest⟩ : Cell21)).getD []) set_) fun a117 =>
        some (.inl ((kB1 (kB1 w1 set_ (⟨⟨c110.x1, c110.y1, c110.x2, c110.y2⟩, a111.ways, a111.cost, a111.kind, a111.sign, a111.first, a111.rest⟩ : Cell21)) set_ (⟨⟨a117.box.x1, a117.box.y1, a117.box.x2, a117.box.y2⟩, a117.ways, a117.cost, a117.kind, w5, a117.first, a117.rest⟩ : Cell21)), wr (w4 + 1), wr (w5 + 1)))
  else
    some (.inr (w1, w4))
def t_q58 (c_ : Chart21) (set_ : Int) : Option Chart21 :=
  kA0 (kBq (kJa c_ set_) (c_.cells, 0, 0)) fun (q8, q9) =>
  bif decide (q9 = 1) then
    kA0 (kCo (q8.getD []) set_) fun a12 =>
    some (⟨c_.list, (kB1 q8 set_ (⟨⟨a12.box.x1, a12.box.y1, a12.box.x2, a12.box.y2⟩, 1, a12.cost, a12.kind, a12.sign, a12.first, a12.rest⟩ : Cell21))⟩ : Chart21)
  else
    kA0 (t_q60 (⟨c_.list, q8⟩ : Chart21) set_ 1 0 set_) fun c20 =>
    kA0 (t_q59 c20 set_ 2) fun c29 =>
    kA0 (t_q60 c29 set_ 3 0 set_) fun c38 =>
    kA0 (t_q60 c38 set_ 4 0 set_) fun c47 =>
    kA0 (t_q59 c47 set_ 5) fun c56 =>
    some (⟨c56.list, c56.cells⟩ : Chart21)
theorem tl0_q58 (env : Nat → Contract) {B : Base} (he_q53 : env n_q53 = .pure (T2 kBi)) (he_q59 : env n_q59 = .gen (kAh Try.prog kIw n_q59)) (he_q60 : env kFy = .gen (kAh Try.prog kI8 kFy)) (c_ : Chart21) (o_ : Nat) (set_ : Int) (x_cells_ : AV)  {st : (Sl Cell21) × Int × Int} {tm : TM} {h : kA6} (R : (fun (st : (Sl Cell21) × Int × Int) tm h2 => match st with | (w1, w4, w5) => tm = ((AV.ptr o_ 1 0 0) :: (iv set_) :: und :: und :: (iv w4) :: (iv w5) :: .top :: .top :: .top :: .top :: .top :: .top :: .top :: .top :: .top :: .top :: .top :: .top :: .top :: .top :: .top :: .top :: .top :: .top :: .top :: .top :: .top :: .top :: .top :: .top :: .top :: .top :: .top :: .top :: .top :: .top :: .top :: .top :: .top :: .top :: .top :: .top :: .top :: .top :: .top :: .top :: .top :: .top :: .top :: .top :: .top :: .top :: .top :: .top :: .top :: .top :: .top :: .top :: .top :: .top :: .top :: .top :: .top :: .top :: .top :: .top :: .top :: .top :: .top :: .top :: .top :: und :: und :: und :: und :: und :: und :: und :: und :: und :: und :: und :: und :: und :: und :: und :: und :: und :: und :: und :: und :: und :: und :: und :: und :: und :: und :: und :: []) ∧ Hold B h2 [(AV.ptr o_ 1 0 0, .pt 2 [Sl.enc c_.list, x_cells_]), (x_cells_, obS (w1 : Sl Cell21))]) st tm h) : Sim (kBx hm0_q58 xm0_q58 (lb0_q58 env) tm h) (kBq (kJa c_ set_) st) (fun (q : (Sl Cell21) × Int) (r : Res) => match q with | (q8, q9) => ∃ (q10 : Int) (h6 : kA6), r = (.exit 0, ((AV.ptr o_ 1 0 0) :: (iv set_) :: und :: und :: (iv q9) :: (iv q10) :: .top :: .top :: .top :: .top :: .top :: .top :: .top :: .top :: .top :: .top :: .top :: .top :: .top :: .top :: .top :: .top :: .top :: .top :: .top :: .top :: .top :: .top :: .top :: .top :: .top :: .top :: .top :: .top :: .top :: .top :: .top :: .top :: .top :: .top :: .top :: .top :: .top :: .top :: .top :: .top :: .top :: .top :: .top :: .top :: .top :: .top :: .top :: .top :: .top :: .top :: .top :: .top :: .top :: .top :: .top :: .top :: .top :: .top :: .top :: .top :: .top :: .top :: .top :: .top :: .top :: und :: und :: und :: und :: und :: und :: und :: und :: und :: und :: und :: und :: und :: und :: und :: und :: und :: und :: und :: und :: und :: und :: und :: und :: und :: und :: und :: []), h6) ∧ Hold B h6 [(AV.ptr o_ 1 0 0, .pt 2 [Sl.enc c_.list, x_cells_]), (x_cells_, obS (q8 : Sl Cell21))]) := by
  refine kCe (Rel := fun (st : (Sl Cell21) × Int × Int) tm h2 => match st with | (w1, w4, w5) => tm = ((AV.ptr o_ 1 0 0) :: (iv set_) :: und :: und :: (iv w4) :: (iv w5) :: .top :: .top :: .top :: .top :: .top :: .top :: .top :: .top :: .top :: .top :: .top :: .top :: .top :: .top :: .top :: .top :: .top :: .top :: .top :: .top :: .top :: .top :: .top :: .top :: .top :: .top :: .top :: .top :: .top :: .top :: .top :: .top :: .top :: .top :: .top :: .top :: .top :: .top :: .top :: .top :: .top :: .top :: .top :: .top :: .top :: .top :: .top :: .top :: .top :: .top :: .top :: .top :: .top :: .top :: .top :: .top :: .top :: .top :: .top :: .top :: .top :: .top :: .top :: .top :: .top :: und :: und :: und :: und :: und :: und :: und :: und :: und :: und :: und :: und :: und :: und :: und :: und :: und :: und :: und :: und :: und :: und :: und :: und :: und :: und :: und :: []) ∧ Hold B h2 [(AV.ptr o_ 1 0 0, .pt 2 [Sl.enc c_.list, x_cells_]), (x_cells_, obS (w1 : Sl Cell21))]) (fun st tm h2 R => ?_) R
  obtain ⟨w1, w4, w5⟩ := st
  obtain ⟨rfl, O3⟩ := R
  rw [e_lb0_q58]
  unfold kJa
  dsimp only
  refine kA1 (v := AV.ptr o_ 1 0 0) rfl ?_
  refine kA1 (v := AV.ptr o_ 1 0 0) rfl ?_
  refine kA1 (v := Sl.enc c_.list) (O3.ld 0 rfl false 1 0) ?_
  refine kA1 (v := iv (((c_.list.getD []).length : Nat) : Int)) (Tab.enc h2 c_.list).len ?_
  refine kA1 (v := bv (decide (w5 < (((c_.list.getD []).length : Nat) : Int)))) (kB8 _ _) ?_
  refine kAc (fun c65 => ?_) (fun c65 => ?_)
  · refine sim_shr (fun q66 => ?_)
    refine kA1 (v := iv (kF3 q66 1)) (kGb _ _) ?_
    refine kA1 (v := bv (decide (kF3 q66 1 = 0))) (kAv _ _) ?_
    refine kAc (fun c67 => ?_) (fun c67 => ?_)
    · refine kA1 (v := iv (wr (w5 + 1))) (kAd _ _) ?_
      exact kA8 ⟨rfl, rfl, O3⟩
    · refine kA1 (v := bv (decide (w4 = 0))) (kAv _ _) ?_
      refine kAc (fun c69 => ?_) (fun c69 => ?_)
      · refine kA1 (v := AV.ptr o_ 1 0 0) rfl ?_
        refine kA1 (v := AV.ptr o_ 1 0 1) rfl ?_
        refine kA1 (v := x_cells_) (O3.ld 0 rfl false 1 1) ?_
        refine kA1 (v := AV.ptr o_ 1 0 0) rfl ?_
        refine kA1 (v := AV.ptr o_ 1 0 0) rfl ?_
        refine kA1 (v := Sl.enc c_.list) (O3.ld 0 rfl false 1 0) ?_
        refine kAo (Tab.enc h2 c_.list) (fun m71 a70 hi72 hm73 => ?_)
        refine kA1 (v := elp (Sl.enc c_.list) m71 1) ((Tab.enc h2 c_.list).fld _ _ _) ?_
        refine kA1 (v := AV.agg [iv a70.box.x1, iv a70.box.y1, iv a70.box.x2, iv a70.box.y2]) ((Tab.enc h2 c_.list).ld hm73 true 4 1) ?_
        refine kAo (O3.tab (A := Cell21) (s := w1) 1 rfl) (fun m75 a74 hi76 hm77 => ?_)
        refine kA1 (v := elp x_cells_ m75 0) ((O3.tab (A := Cell21) (s := w1) 1 rfl).fld _ _ _) ?_
        refine kB6 (A := Cell21) O3 1 (⟨⟨a70.box.x1, a70.box.y1, a70.box.x2, a70.box.y2⟩, a74.ways, a74.cost, a74.kind, a74.sign, a74.first, a74.rest⟩ : Cell21) rfl hi76 hm77 rfl (by simp) (by first | rfl | simp) (by first | rfl | simp [kAi]) (fun h78 O79 => ?_)
        replace O79 : Hold B h78 [(AV.ptr o_ 1 0 0, .pt 2 [Sl.enc c_.list, x_cells_]), (x_cells_, obS ((kB1 w1 set_ (⟨⟨a70.box.x1, a70.box.y1, a70.box.x2, a70.box.y2⟩, a74.ways, a74.cost, a74.kind, a74.sign, a74.first, a74.rest⟩ : Cell21)) : Sl Cell21))] := O79
        refine kA1 (v := AV.ptr o_ 1 0 0) rfl ?_
        refine kA1 (v := AV.ptr o_ 1 0 1) rfl ?_
        refine kA1 (v := x_cells_) (O79.ld 0 rfl false 1 1) ?_
        refine kA1 (v := AV.ptr o_ 1 0 0) rfl ?_
        refine kA1 (v := AV.ptr o_ 1 0 1) rfl ?_
        refine kA1 (v := x_cells_) (O79.ld 0 rfl false 1 1) ?_
        refine kAo (O79.tab (A := Cell21) (s := (kB1 w1 set_ (⟨⟨a70.box.x1, a70.box.y1, a70.box.x2, a70.box.y2⟩, a74.ways, a74.cost, a74.kind, a74.sign, a74.first, a74.rest⟩ : Cell21))) 1 rfl) (fun m81 a80 hi82 hm83 => ?_)
        refine kA1 (v := elp x_cells_ m81 0) ((O79.tab (A := Cell21) (s := (kB1 w1 set_ (⟨⟨a70.box.x1, a70.box.y1, a70.box.x2, a70.box.y2⟩, a74.ways, a74.cost, a74.kind, a74.sign, a74.first, a74.rest⟩ : Cell21))) 1 rfl).fld _ _ _) ?_
        refine kA1 (v := AV.agg [iv a80.box.x1, iv a80.box.y1, iv a80.box.x2, iv a80.box.y2]) ((O79.tab (A := Cell21) (s := (kB1 w1 set_ (⟨⟨a70.box.x1, a70.box.y1, a70.box.x2, a70.box.y2⟩, a74.ways, a74.cost, a74.kind, a74.sign, a74.first, a74.rest⟩ : Cell21))) 1 rfl).ld hm83 true 4 0) ?_
        refine kA1 (v := AV.ptr o_ 1 0 0) rfl ?_
        refine kA1 (v := AV.ptr o_ 1 0 0) rfl ?_
        refine kA1 (v := Sl.enc c_.list) (O79.ld 0 rfl false 1 0) ?_
        refine kAo (Tab.enc h78 c_.list) (fun m85 a84 hi86 hm87 => ?_)
        refine kA1 (v := elp (Sl.enc c_.list) m85 1) ((Tab.enc h78 c_.list).fld _ _ _) ?_
        refine kA1 (v := AV.agg [iv a84.box.x1, iv a84.box.y1, iv a84.box.x2, iv a84.box.y2]) ((Tab.enc h78 c_.list).ld hm87 true 4 1) ?_
        refine kC2 (t := kBi) he_q53 (kAf _ a80.box rfl) (kAf _ a84.box rfl) (fun c88 => ?_)
        refine kAo (O79.tab (A := Cell21) (s := (kB1 w1 set_ (⟨⟨a70.box.x1, a70.box.y1, a70.box.x2, a70.box.y2⟩, a74.ways, a74.cost, a74.kind, a74.sign, a74.first, a74.rest⟩ : Cell21))) 1 rfl) (fun m90 a89 hi91 hm92 => ?_)
        refine kA1 (v := elp x_cells_ m90 0) ((O79.tab (A := Cell21) (s := (kB1 w1 set_ (⟨⟨a70.box.x1, a70.box.y1, a70.box.x2, a70.box.y2⟩, a74.ways, a74.cost, a74.kind, a74.sign, a74.first, a74.rest⟩ : Cell21))) 1 rfl).fld _ _ _) ?_
        refine kB6 (A := Cell21) O79 1 (⟨⟨c88.x1, c88.y1, c88.x2, c88.y2⟩, a89.ways, a89.cost, a89.kind, a89.sign, a89.first, a89.rest⟩ : Cell21) rfl hi91 hm92 rfl (by simp) (by first | rfl | simp) (by first | rfl | simp [kAi]) (fun h93 O94 => ?_)
        replace O94 : Hold B h93 [(AV.ptr o_ 1 0 0, .pt 2 [Sl.enc c_.list, x_cells_]), (x_cells_, obS ((kB1 (kB1 w1 set_ (⟨⟨a70.box.x1, a70.box.y1, a70.box.x2, a70.box.y2⟩, a74.ways, a74.cost, a74.kind, a74.sign, a74.first, a74.rest⟩ : Cell21)) set_ (⟨⟨c88.x1, c88.y1, c88.x2, c88.y2⟩, a89.ways, a89.cost, a89.kind, a89.sign, a89.first, a89.rest⟩ : Cell21)) : Sl Cell21))] := O94
        refine kA1 (v := iv (wr (w4 + 1))) (kAd _ _) ?_
        refine kA1 (v := AV.ptr o_ 1 0 0) rfl ?_
        refine kA1 (v := AV.ptr o_ 1 0 1) rfl ?_
        refine kA1 (v := x_cells_) (O94.ld 0 rfl false 1 1) ?_
        refine kAo (O94.tab (A := Cell21) (s := (kB1 (kB1 w1 set_ (⟨⟨a70.box.x1, a70.box.y1, a70.box.x2, a70.box.y2⟩, a74.ways, a74.cost, a74.kind, a74.sign, a74.first, a74.rest⟩ : Cell21)) set_ (⟨⟨c88.x1, c88.y1, c88.x2, c88.y2⟩, a89.ways, a89.cost, a89.kind, a89.sign, a89.first, a89.rest⟩ : Cell21))) 1 rfl) (fun m96 a95 hi97 hm98 => ?_)
        refine kA1 (v := elp x_cells_ m96 7) ((O94.tab (A := Cell21) (s := (kB1 (kB1 w1 set_ (⟨⟨a70.box.x1, a70.box.y1, a70.box.x2, a70.box.y2⟩, a74.ways, a74.cost, a74.kind, a74.sign, a74.first, a74.rest⟩ : Cell21)) set_ (⟨⟨c88.x1, c88.y1, c88.x2, c88.y2⟩, a89.ways, a89.cost, a89.kind, a89.sign, a89.first, a89.rest⟩ : Cell21))) 1 rfl).fld _ _ _) ?_
        refine kB6 (A := Cell21) O94 1 (⟨⟨a95.box.x1, a95.box.y1, a95.box.x2, a95.box.y2⟩, a95.ways, a95.cost, a95.kind, w5, a95.first, a95.rest⟩ : Cell21) rfl hi97 hm98 rfl (by simp) (by first | rfl | simp) (by first | rfl | simp [kAi]) (fun h99 O100 => ?_)
        replace O100 : Hold B h99 [(AV.ptr o_ 1 0 0, .pt 2 [Sl.enc c_.list, x_cells_]), (x_cells_, obS ((kB1 (kB1 (kB1 w1 set_ (⟨⟨a70.box.x1, a70.box.y1, a70.box.x2, a70.box.y2⟩, a74.ways, a74.cost, a74.kind, a74.sign, a74.first, a74.rest⟩ : Cell21)) set_ (⟨⟨c88.x1, c88.y1, c88.x2, c88.y2⟩, a89.ways, a89.cost, a89.kind, a89.sign, a89.first, a89.rest⟩ : Cell21)) set_ (⟨⟨a95.box.x1, a95.box.y1, a95.box.x2, a95.box.y2⟩, a95.ways, a95.cost, a95.kind, w5, a95.first, a95.rest⟩ : Cell21)) : Sl Cell21))] := O100
        refine kA1 (v := iv (wr (w5 + 1))) (kAd _ _) ?_
        exact kA8 ⟨rfl, rfl, O100⟩
      · refine kA1 (v := AV.ptr o_ 1 0 0) rfl ?_
        refine kA1 (v := AV.ptr o_ 1 0 1) rfl ?_
        refine kA1 (v := x_cells_) (O3.ld 0 rfl false 1 1) ?_
        refine kA1 (v := AV.ptr o_ 1 0 0) rfl ?_
        refine kA1 (v := AV.ptr o_ 1 0 1) rfl ?_
        refine kA1 (v := x_cells_) (O3.ld 0 rfl false 1 1) ?_
        refine kAo (O3.tab (A := Cell21) (s := w1) 1 rfl) (fun m103 a102 hi104 hm105 => ?_)
        refine kA1 (v := elp x_cells_ m103 0) ((O3.tab (A := Cell21) (s := w1) 1 rfl).fld _ _ _) ?_
        refine kA1 (v := AV.agg [iv a102.box.x1, iv a102.box.y1, iv a102.box.x2, iv a102.box.y2]) ((O3.tab (A := Cell21) (s := w1) 1 rfl).ld hm105 true 4 0) ?_
        refine kA1 (v := AV.ptr o_ 1 0 0) rfl ?_
        refine kA1 (v := AV.ptr o_ 1 0 0) rfl ?_
        refine kA1 (v := Sl.enc c_.list) (O3.ld 0 rfl false 1 0) ?_
        refine kAo (Tab.enc h2 c_.list) (fun m107 a106 hi108 hm109 => ?_)
        refine kA1 (v := elp (Sl.enc c_.list) m107 1) ((Tab.enc h2 c_.list).fld _ _ _) ?_
        refine kA1 (v := AV.agg [iv a106.box.x1, iv a106.box.y1, iv a106.box.x2, iv a106.box.y2]) ((Tab.enc h2 c_.list).ld hm109 true 4 1) ?_
        refine kC2 (t := kBi) he_q53 (kAf _ a102.box rfl) (kAf _ a106.box rfl) (fun c110 => ?_)
        refine kAo (O3.tab (A := Cell21) (s := w1) 1 rfl) (fun m112 a111 hi113 hm114 => ?_)
        refine kA1 (v := elp x_cells_ m112 0) ((O3.tab (A := Cell21) (s := w1) 1 rfl).fld _ _ _) ?_
        refine kB6 (A := Cell21) O3 1 (⟨⟨c110.x1, c110.y1, c110.x2, c110.y2⟩, a111.ways, a111.cost, a111.kind, a111.sign, a111.first, a111.rest⟩ : Cell21) rfl hi113 hm114 rfl (by simp) (by first | rfl | simp) (by first | rfl | simp [kAi]) (fun h115 O116 => ?_)
        replace O116 : Hold B h115 [(AV.ptr o_ 1 0 0, .pt 2 [Sl.enc c_.list, x_cells_]), (x_cells_, obS ((kB1 w1 set_ (⟨⟨c110.x1, c110.y1, c110.x2, c110.y2⟩, a111.ways, a111.cost, a111.kind, a111.sign, a111.first, a111.rest⟩ : Cell21)) : Sl Cell21))] := O116
        refine kA1 (v := iv (wr (w4 + 1))) (kAd _ _) ?_
        refine kA1 (v := AV.ptr o_ 1 0 0) rfl ?_
        refine kA1 (v := AV.ptr o_ 1 0 1) rfl ?_
        refine kA1 (v := x_cells_) (O116.ld 0 rfl false 1 1) ?_
        refine kAo (O116.tab (A := Cell21) (s := (kB1 w1 set_ (⟨⟨c110.x1, c110.y1, c110.x2, c110.y2⟩, a111.ways, a111.cost, a111.kind, a111.sign, a111.first, a111.rest⟩ : Cell21))) 1 rfl) (fun m118 a117 hi119 hm120 => ?_)
        refine kA1 (v := elp x_cells_ m118 7) ((O116.tab (A := Cell21) (s := (kB1 w1 set_ (⟨⟨c110.x1, c110.y1, c110.x2, c110.y2⟩, a111.ways, a111.cost, a111.kind, a111.sign, a111.first, a111.rest⟩ : Cell21))) 1 rfl).fld _ _ _) ?_
        refine kB6 (A := Cell21) O116 1 (⟨⟨a117.box.x1, a117.box.y1, a117.box.x2, a117.box.y2⟩, a117.ways, a117.cost, a117.kind, w5, a117.first, a117.rest⟩ : Cell21) rfl hi119 hm120 rfl (by simp) (by first | rfl | simp) (by first | rfl | simp [kAi]) (fun h121 O122 => ?_)
        replace O122 : Hold B h121 [(AV.ptr o_ 1 0 0, .pt 2 [Sl.enc c_.list, x_cells_]), (x_cells_, obS ((kB1 (kB1 w1 set_ (⟨⟨c110.x1, c110.y1, c110.x2, c110.y2⟩, a111.ways, a111.cost, a111.kind, a111.sign, a111.first, a111.rest⟩ : Cell21)) set_ (⟨⟨a117.box.x1, a117.box.y1, a117.box.x2, a117.box.y2⟩, a117.ways, a117.cost, a117.kind, w5, a117.first, a117.rest⟩ : Cell21)) : Sl Cell21))] := O122
        refine kA1 (v := iv (wr (w5 + 1))) (kAd _ _) ?_
        exact kA8 ⟨rfl, rfl, O122⟩
  · exact kA8 ⟨nofun, _, _, rfl, O3⟩
theorem ts_q58 (env : Nat → Contract) (he_q53 : env n_q53 = .pure (T2 kBi)) (he_q59 : env n_q59 = .gen (kAh Try.prog kIw n_q59)) (he_q60 : env kFy = .gen (kAh Try.prog kI8 kFy)) {B : Base} {h : kA6} {o_ : Nat} {x_cells_ : AV} (c_ : Chart21) (set_ : Int) (O : Hold B h [(AV.ptr o_ 1 0 0, .pt 2 [Sl.enc c_.list, x_cells_]), (x_cells_, obS (c_.cells : Sl Cell21))]) : Sim (kAh Try.prog env n_q58 [AV.ptr o_ 1 0 0, iv set_] h) (t_q58 c_ set_) (fun c p => ∃ x1, p.1 = und ∧ Hold B p.2 ([(AV.ptr o_ 1 0 0, .pt 2 [Sl.enc c.list, x1]), (x1, obS (c.cells : Sl Cell21))])) := by
  rw [e_q58]
  unfold t_q58
  refine kCd ((tl0_q58 env he_q53 he_q59 he_q60 c_ o_ set_ x_cells_) ⟨rfl, O⟩) (fun qq126 r hq => ?_)
  obtain ⟨q8, q9⟩ := qq126
  obtain ⟨q10, h6, rfl, O7⟩ := hq
  rw [e_lk0x0_q58]
  refine kA1 (v := bv (decide (q9 = 1))) (kAv _ _) ?_
  refine kAc (fun c11 => ?_) (fun c11 => ?_)
  · refine kA1 (v := AV.ptr o_ 1 0 0) rfl ?_
    refine kA1 (v := AV.ptr o_ 1 0 1) rfl ?_
    refine kA1 (v := x_cells_) (O7.ld 0 rfl false 1 1) ?_
    refine kAo (O7.tab (A := Cell21) (s := q8) 1 rfl) (fun m13 a12 hi14 hm15 => ?_)
    refine kA1 (v := elp x_cells_ m13 4) ((O7.tab (A := Cell21) (s := q8) 1 rfl).fld _ _ _) ?_
    refine kB6 (A := Cell21) O7 1 (⟨⟨a12.box.x1, a12.box.y1, a12.box.x2, a12.box.y2⟩, 1, a12.cost, a12.kind, a12.sign, a12.first, a12.rest⟩ : Cell21) rfl hi14 hm15 rfl (by simp) (by first | rfl | simp) (by first | rfl | simp [kAi]) (fun h16 O17 => ?_)
    replace O17 : Hold B h16 [(AV.ptr o_ 1 0 0, .pt 2 [Sl.enc c_.list, x_cells_]), (x_cells_, obS ((kB1 q8 set_ (⟨⟨a12.box.x1, a12.box.y1, a12.box.x2, a12.box.y2⟩, 1, a12.cost, a12.kind, a12.sign, a12.first, a12.rest⟩ : Cell21)) : Sl Cell21))] := O17
    exact kA8 ⟨_, rfl, O17⟩
  · have O19 := O7
    refine kCj he_q60 (tg_q60 (⟨c_.list, q8⟩ : Chart21) set_ 1 0 set_ (Hold.startL (L := [(AV.ptr o_ 1 0 0, .pt 2 [Sl.enc c_.list, x_cells_]), (x_cells_, obS (q8 : Sl Cell21))]) (R := []) O19)) (fun c20 v21 h22 hq23 => ?_)
    obtain ⟨x26, e_v21, O24⟩ := hq23
    dsimp only at e_v21
    subst v21
    have O25 : Hold B h22 [(AV.ptr o_ 1 0 0, .pt 2 [Sl.enc c20.list, x26]), (x26, obS (c20.cells : Sl Cell21))] := Hold.mergeL (L := [(AV.ptr o_ 1 0 0, .pt 2 [Sl.enc c_.list, x_cells_]), (x_cells_, obS (q8 : Sl Cell21))]) (R := []) O19 O24
    have O28 := O25
    refine kCj he_q59 (tg_q59 c20 set_ 2 (Hold.startL (L := [(AV.ptr o_ 1 0 0, .pt 2 [Sl.enc c20.list, x26]), (x26, obS (c20.cells : Sl Cell21))]) (R := []) O28)) (fun c29 v30 h31 hq32 => ?_)
    obtain ⟨x35, e_v30, O33⟩ := hq32
    dsimp only at e_v30
    subst v30
    have O34 : Hold B h31 [(AV.ptr o_ 1 0 0, .pt 2 [Sl.enc c29.list, x35]), (x35, obS (c29.cells : Sl Cell21))] := Hold.mergeL (L := [(AV.ptr o_ 1 0 0, .pt 2 [Sl.enc c20.list, x26]), (x26, obS (c20.cells : Sl Cell21))]) (R := []) O28 O33
    have O37 := O34
    refine kCj he_q60 (tg_q60 c29 set_ 3 0 set_ (Hold.startL (L := [(AV.ptr o_ 1 0 0, .pt 2 [Sl.enc c29.list, x35]), (x35, obS (c29.cells : Sl Cell21))]) (R := []) O37)) (fun c38 v39 h40 hq41 => ?_)
    obtain ⟨x44, e_v39, O42⟩ := hq41
    dsimp only at e_v39
    subst v39
    have O43 : Hold B h40 [(AV.ptr o_ 1 0 0, .pt 2 [Sl.enc c38.list, x44]), (x44, obS (c38.cells : Sl Cell21))] := Hold.mergeL (L := [(AV.ptr o_ 1 0 0, .pt 2 [Sl.enc c29.list, x35]), (x35, obS (c29.cells : Sl Cell21))]) (R := []) O37 O42
    have O46 := O43
    refine kCj he_q60 (tg_q60 c38 set_ 4 0 set_ (Hold.startL (L := [(AV.ptr o_ 1 0 0, .pt 2 [Sl.enc c38.list, x44]), (x44, obS (c38.cells : Sl Cell21))]) (R := []) O46)) (fun c47 v48 h49 hq50 => ?_)
    obtain ⟨x53, e_v48, O51⟩ := hq50
    dsimp only at e_v48
    subst v48
    have O52 : Hold B h49 [(AV.ptr o_ 1 0 0, .pt 2 [Sl.enc c47.list, x53]), (x53, obS (c47.cells : Sl Cell21))] := Hold.mergeL (L := [(AV.ptr o_ 1 0 0, .pt 2 [Sl.enc c38.list, x44]), (x44, obS (c38.cells : Sl Cell21))]) (R := []) O46 O51
    have O55 := O52
    refine kCj he_q59 (tg_q59 c47 set_ 5 (Hold.startL (L := [(AV.ptr o_ 1 0 0, .pt 2 [Sl.enc c47.list, x53]), (x53, obS (c47.cells : Sl Cell21))]) (R := []) O55)) (fun c56 v57 h58 hq59 => ?_)
    obtain ⟨x62, e_v57, O60⟩ := hq59
    dsimp only at e_v57
    subst v57
    have O61 : Hold B h58 [(AV.ptr o_ 1 0 0, .pt 2 [Sl.enc c56.list, x62]), (x62, obS (c56.cells : Sl Cell21))] := Hold.mergeL (L := [(AV.ptr o_ 1 0 0, .pt 2 [Sl.enc c47.list, x53]), (x53, obS (c47.cells : Sl Cell21))]) (R := []) O55 O60
    exact kA8 ⟨_, rfl, O61⟩
noncomputable def kJ1 : Nat → Contract := kC4 [(n_q53, .pure (T2 kBi)), (n_q59, .gen (kAh Try.prog kIw n_q59)), (kFy, .gen (kAh Try.prog kI8 kFy))]
theorem kHd : kBz Try.prog kJ1 := (kCq ok_q53 (kE5 (kBk kGw kBh hb_q59) (kE5 (kBk kEc kBh hb_q60) E0)))
theorem tg_q58 {B : Base} {h : kA6} {o_ : Nat} {x_cells_ : AV} (c_ : Chart21) (set_ : Int) (O : Hold B h [(AV.ptr o_ 1 0 0, .pt 2 [Sl.enc c_.list, x_cells_]), (x_cells_, obS (c_.cells : Sl Cell21))]) : Sim (kAh Try.prog kJ1 n_q58 [AV.ptr o_ 1 0 0, iv set_] h) (t_q58 c_ set_) (fun c p => ∃ x1, p.1 = und ∧ Hold B p.2 ([(AV.ptr o_ 1 0 0, .pt 2 [Sl.enc c.list, x1]), (x1, obS (c.cells : Sl Cell21))])) := ts_q58 kJ1 (by simp [kJ1, kC4]) (by simp [kJ1, kC4]) (by simp [kJ1, kC4]) c_ set_  O
def s0_q63 : ((Sl Cell21) × (Sl Symbol) × Int) → Option (Sum ((Sl Cell21) × (Sl Symbol) × Int) ((Sl Cell21) × (Sl Symbol))) := fun (w12, w13, w16) =>
  bif decide (w16 < (((w12.getD []).length : Nat) : Int)) then
    kA0 (t_q58 (⟨w13, w12⟩ : Chart21) w16) fun c26 =>
    some (.inl (c26.cells, c26.list, wr (w16 + 1)))
  else
    some (.inr (w12, w13))
def t_q63 (list_ : Sl Symbol) : Option Chart21 :=
  kA0 (shlO 1 (((list_.getD []).length : Nat) : Int)) fun q1 =>
  kA0 (makeO (⟨⟨0, 0, 0, 0⟩, 0, 0, 0, 0, 0, 0⟩ : Cell21) q1) fun l6 =>
  kA0 (kBq s0_q63 ((some l6), list_, 1)) fun (q20, q21) =>
  some (⟨q21, q20⟩ : Chart21)
theorem tl0_q63 (env : Nat → Contract) {B : Base} (he_q58 : env n_q58 = .gen (kAh Try.prog kJ1 n_q58)) (list_ : Sl Symbol) (q1 : Int) (x2 : AV) (o7 : Nat)  {st : (Sl Cell21) × (Sl Symbol) × Int} {tm : TM} {h : kA6} (R : (fun (st : (Sl Cell21) × (Sl Symbol) × Int) tm h14 => match st with | (w12, w13, w16) => ∃ z11, tm = [Sl.enc list_, und, (AV.sc (.pointer none)), AV.ptr o7 1 0 0, iv w16, Sl.enc list_, Sl.enc list_, iv (((list_.getD []).length : Nat) : Int), iv q1, x2, AV.agg [Sl.enc list_, x2], AV.ptr o7 1 0 0, .top, .top, .top, .top, .top, .top, .top, .top, .top, .top, .top, .top, und] ∧ Hold B h14 [(z11, obS (w12 : Sl Cell21)), (AV.ptr o7 1 0 0, .pt 2 [Sl.enc w13, z11])]) st tm h) : Sim (kBx hm0_q63 xm0_q63 (lb0_q63 env) tm h) (kBq s0_q63 st) (fun (q : (Sl Cell21) × (Sl Symbol)) (r : Res) => match q with | (q20, q21) => ∃ (q22 : Int) (z19 : AV) (h17 : kA6), r = (.exit 0, [Sl.enc list_, und, (AV.sc (.pointer none)), AV.ptr o7 1 0 0, iv q22, Sl.enc list_, Sl.enc list_, iv (((list_.getD []).length : Nat) : Int), iv q1, x2, AV.agg [Sl.enc list_, x2], AV.ptr o7 1 0 0, .top, .top, .top, .top, .top, .top, .top, .top, .top, .top, .top, .top, und], h17) ∧ Hold B h17 [(z19, obS (q20 : Sl Cell21)), (AV.ptr o7 1 0 0, .pt 2 [Sl.enc q21, z19])]) := by
  refine kCe (Rel := fun (st : (Sl Cell21) × (Sl Symbol) × Int) tm h14 => match st with | (w12, w13, w16) => ∃ z11, tm = [Sl.enc list_, und, (AV.sc (.pointer none)), AV.ptr o7 1 0 0, iv w16, Sl.enc list_, Sl.enc list_, iv (((list_.getD []).length : Nat) : Int), iv q1, x2, AV.agg [Sl.enc list_, x2], AV.ptr o7 1 0 0, .top, .top, .top, .top, .top, .top, .top, .top, .top, .top, .top, .top, und] ∧ Hold B h14 [(z11, obS (w12 : Sl Cell21)), (AV.ptr o7 1 0 0, .pt 2 [Sl.enc w13, z11])]) (fun st tm h14 R => ?_) R
  obtain ⟨w12, w13, w16⟩ := st
  obtain ⟨z11, rfl, O15⟩ := R
  rw [e_lb0_q63]
  unfold s0_q63
  dsimp only
  refine kA1 (v := AV.ptr o7 1 0 0) rfl ?_
  refine kA1 (v := AV.ptr o7 1 0 1) rfl ?_
  refine kA1 (v := z11) (O15.ld 1 rfl false 1 1) ?_
  refine kA1 (v := iv (((w12.getD []).length : Nat) : Int)) (O15.tab (A := Cell21) (s := w12) 0 rfl).len ?_
  refine kA1 (v := bv (decide (w16 < (((w12.getD []).length : Nat) : Int)))) (kB8 _ _) ?_
  refine kAc (fun c24 => ?_) (fun c24 => ?_)
  · have O25 : Hold B h14 [(AV.ptr o7 1 0 0, .pt 2 [Sl.enc w13, z11]), (z11, obS (w12 : Sl Cell21))] := O15.sel [1, 0] (by decide) rfl
    refine kCj he_q58 (tg_q58 (⟨w13, w12⟩ : Chart21) w16 (Hold.startL (L := [(AV.ptr o7 1 0 0, .pt 2 [Sl.enc w13, z11]), (z11, obS (w12 : Sl Cell21))]) (R := []) O25)) (fun c26 v27 h28 hq29 => ?_)
    obtain ⟨x32, e_v27, O30⟩ := hq29
    dsimp only at e_v27
    subst v27
    have O31 : Hold B h28 [(AV.ptr o7 1 0 0, .pt 2 [Sl.enc c26.list, x32]), (x32, obS (c26.cells : Sl Cell21))] := Hold.mergeL (L := [(AV.ptr o7 1 0 0, .pt 2 [Sl.enc w13, z11]), (z11, obS (w12 : Sl Cell21))]) (R := []) O25 O30
    refine kA1 (v := iv (wr (w16 + 1))) (kAd _ _) ?_
    have O34 : Hold B h28 [(x32, obS (c26.cells : Sl Cell21)), (AV.ptr o7 1 0 0, .pt 2 [Sl.enc c26.list, x32])] := O31.sel [1, 0] (by decide) rfl
    exact kA8 ⟨rfl, _, rfl, O34⟩
  · exact kA8 ⟨nofun, _, _, _, rfl, O15⟩
theorem ts_q63 (env : Nat → Contract) (he_q58 : env n_q58 = .gen (kAh Try.prog kJ1 n_q58)) {B : Base} {h : kA6} (list_ : Sl Symbol) (O : Hold B h []) : Sim (kAh Try.prog env n_q63 [Sl.enc list_] h) (t_q63 list_) (fun c p => ∃ x1 : Nat, ∃ x2, p.1 = AV.ptr x1 1 0 0 ∧ Hold B p.2 ([(AV.ptr x1 1 0 0, .pt 2 [Sl.enc c.list, x2]), (x2, obS (c.cells : Sl Cell21))])) := by
  rw [e_q63]
  unfold t_q63
  refine kA1 (v := iv (((list_.getD []).length : Nat) : Int)) (Tab.enc h list_).len ?_
  refine sim_shl (fun q1 => ?_)
  refine kJ3 (A := Cell21) O (⟨⟨0, 0, 0, 0⟩, 0, 0, 0, 0, 0, 0⟩ : Cell21) rfl (by decide) (fun l6 x2 h3 O4 => ?_)
  replace O4 : Hold B h3 [(x2, obS ((some l6) : Sl Cell21))] := O4
  refine kA1 (v := AV.agg [Sl.enc list_, x2]) (by first | rfl | simp [kBv, kF7, kAi, (O4.one (A := Cell21) (s := (some l6)) 0 rfl).1, (O4.one (A := Cell21) (s := (some l6)) 0 rfl).2]) ?_
  refine kBd O4 (cs := [Sl.enc list_, x2]) (by first | rfl | simp [(O4.one (A := Cell21) (s := (some l6)) 0 rfl).1, (O4.one (A := Cell21) (s := (some l6)) 0 rfl).2]) (fun o7 h8 O9 => ?_)
  replace O9 : Hold B h8 [(x2, obS ((some l6) : Sl Cell21)), (AV.ptr o7 1 0 0, .pt 2 [Sl.enc list_, x2])] := O9
  refine kCd ((tl0_q63 env he_q58 list_ q1 x2 o7) ⟨_, rfl, O9⟩) (fun qq37 r hq => ?_)
  obtain ⟨q20, q21⟩ := qq37
  obtain ⟨q22, z19, h17, rfl, O18⟩ := hq
  rw [e_lk0x0_q63]
  have O23 : Hold B h17 [(AV.ptr o7 1 0 0, .pt 2 [Sl.enc q21, z19]), (z19, obS (q20 : Sl Cell21))] := O18.sel [1, 0] (by decide) rfl
  exact kA8 ⟨_, _, rfl, O23⟩
noncomputable def ev_q63 : Nat → Contract := kC4 [(n_q58, .gen (kAh Try.prog kJ1 n_q58))]
theorem eo_spec_l21Fill : kBz Try.prog ev_q63 := (kE5 (kBk kHd kBh hb_q58) E0)
theorem tg_q63 {B : Base} {h : kA6} (list_ : Sl Symbol) (O : Hold B h []) : Sim (kAh Try.prog ev_q63 n_q63 [Sl.enc list_] h) (t_q63 list_) (fun c p => ∃ x1 : Nat, ∃ x2, p.1 = AV.ptr x1 1 0 0 ∧ Hold B p.2 ([(AV.ptr x1 1 0 0, .pt 2 [Sl.enc c.list, x2]), (x2, obS (c.cells : Sl Cell21))])) := ts_q63 ev_q63 (by simp [ev_q63, kC4]) list_  O
def s0_q45 (p_ : Symbol → Option Bool) (s_ : Sl Symbol) : Int → Option (Sum Int (Sum Unit Int)) := fun w3 =>
  bif decide (w3 < (((s_.getD []).length : Nat) : Int)) then
    kA0 (kCo (s_.getD []) w3) fun a13 =>
    kA0 (p_ a13) fun c17 =>
    bif c17 then
      some (.inr (.inr w3))
    else
      some (.inl (wr (w3 + 1)))
  else
    some (.inr (.inl ()))
def t_q45 (p_ : Symbol → Option Bool) (s_ : Sl Symbol) : Option Int :=
  kA0 (kBq (s0_q45 p_ s_) 0) fun qq26 => match qq26 with
  | (.inl _) =>
      some (-1)
  | (.inr q10) =>
      some q10
theorem tl0_q45 (env : Nat → Contract) {B : Base} {K : Type} [Cod K] {g : Nat} {caps : K → List AV} {P : K → Symbol → Option Bool} (hp : ∀ k (a : Symbol) h, Sim (kAt (env g) (AV.agg (Row.cells a) :: caps k) h) (P k a) fun b r => r = (bv b, h))  (s_ : Sl Symbol) (f_ : K)  {st : Int} {tm : TM} {h : kA6} (R : (fun (st : Int) tm h1 => match st with | w3 => tm = [Sl.enc s_, AV.fn g (caps f_), und, und, .top, .top, Sl.enc s_, iv (((s_.getD []).length : Nat) : Int), iv w3, .top, .top, .top, .top, .top, .top, .top, .top, .top, .top] ∧ Hold B h1 []) st tm h) : Sim (kBx hm0_q45 xm0_q45 (lb0_q45 env) tm h) (kBq (s0_q45 (P f_) s_) st) (fun (q : Sum Unit Int) (r : Res) => match q with | .inl _ => ∃ (z6 : AV) (z7 : AV) (h4 : kA6), r = (.exit 0, [Sl.enc s_, AV.fn g (caps f_), und, und, z6, z7, Sl.enc s_, iv (((s_.getD []).length : Nat) : Int), .top, .top, .top, .top, .top, .top, .top, .top, .top, .top, .top], h4) ∧ Hold B h4 [] | .inr q10 => ∃ (q11 : Int) (h8 : kA6), r = (.ret, [Sl.enc s_, AV.fn g (caps f_), und, und, iv q10, iv q11, Sl.enc s_, iv (((s_.getD []).length : Nat) : Int), .top, .top, .top, .top, .top, .top, .top, .top, .top, .top, .top], h8) ∧ Hold B h8 []) := by
  refine kCe (Rel := fun (st : Int) tm h1 => match st with | w3 => tm = [Sl.enc s_, AV.fn g (caps f_), und, und, .top, .top, Sl.enc s_, iv (((s_.getD []).length : Nat) : Int), iv w3, .top, .top, .top, .top, .top, .top, .top, .top, .top, .top] ∧ Hold B h1 []) (fun w3 tm h1 R => ?_) R
  obtain ⟨rfl, O2⟩ := R
  rw [e_lb0_q45]
  unfold s0_q45
  dsimp only
  refine kA1 (v := bv (decide (w3 < (((s_.getD []).length : Nat) : Int)))) (kB8 _ _) ?_
  refine kAc (fun c12 => ?_) (fun c12 => ?_)
  · refine kAo (Tab.enc h1 s_) (fun m14 a13 hi15 hm16 => ?_)
    refine kA1 (v := AV.agg [sv a13.label, iv a13.box.x1, iv a13.box.y1, iv a13.box.x2, iv a13.box.y2]) ((Tab.enc h1 s_).ld hm16 true 5 0) ?_
    refine kJ9 (hp f_ a13 _) (fun c17 v18 hh19 hq20 => ?_)
    cases hq20
    refine kAc (fun c21 => ?_) (fun c21 => ?_)
    · exact kA8 ⟨nofun, _, _, rfl, O2⟩
    · refine kA1 (v := iv (wr (w3 + 1))) (kAd _ _) ?_
      exact kA8 ⟨rfl, rfl, O2⟩
  · exact kA8 ⟨nofun, _, _, _, rfl, O2⟩
theorem ts_q45 (env : Nat → Contract) {K : Type} [Cod K] {g : Nat} {caps : K → List AV} {P : K → Symbol → Option Bool} (hp : ∀ k (a : Symbol) h, Sim (kAt (env g) (AV.agg (Row.cells a) :: caps k) h) (P k a) fun b r => r = (bv b, h))  (s_ : Sl Symbol) (f_ : K) : Sim (kAh Try.prog env n_q45 [Sl.enc s_, AV.fn g (caps f_)] []) (t_q45 (P f_) s_) fun c p => release p.2 depth p.1 = some ((fun c : Int => enc c) c) := by
  have O := Hold.nil []
  generalize hB : (⟨[], []⟩ : Base) = B at O
  clear hB
  rw [e_q45]
  unfold t_q45
  refine kA1 (v := iv (((s_.getD []).length : Nat) : Int)) (Tab.enc [] s_).len ?_
  refine kCd ((tl0_q45 env hp s_ f_) ⟨rfl, O⟩) (fun qq26 r hq => ?_)
  rcases qq26 with _ | q10
  · obtain ⟨z6, z7, h4, rfl, O5⟩ := hq
    rw [e_lk0x0_q45]
    exact kA8 (kA7 (by rfl) _)
  · obtain ⟨q11, h8, rfl, O9⟩ := hq
    rw [e_lk0r_q45]
    exact kA8 (kA7 (by rfl) _)
theorem kCw {g : Nat} {t : Symbol → Option Bool} (hg : kAp Try.prog g (C1 (fun c : Bool => enc c) t)) : kAp Try.prog n_q45 (C2 (fun c : Int => enc c) (fun (q : Sl Symbol) (k : Clo0 g) => t_q45 ((fun _ : Clo0 g => t) k) q)) := kGo (kCq hg E0) kBh hb_q45 fun q k => ts_q45 _ (caps := fun _ => []) (P := (fun _ : Clo0 g => t)) (fun k a h => callP0 (by simp [kC4]) (kAf _ a rfl)) q k
def t_q44 (p_ : Symbol → Option Bool) (s_ : Sl Symbol) : Option Bool :=
  kA0 (t_q45 p_ s_) fun c1 =>
  some (decide (0 ≤ c1))
theorem ts_q44 (env : Nat → Contract) {K : Type} [Cod K] {g : Nat} {caps : K → List AV} {P : K → Symbol → Option Bool} (hs : ∀ k h, snapD h (AV.fn g (caps k)) = some k) (he_q45 : env n_q45 = .pure (C2 (fun c : Int => enc c) (fun (q : Sl Symbol) (k : K) => t_q45 (P k) q))) (s_ : Sl Symbol) (f_ : K) : Sim (kAh Try.prog env n_q44 [Sl.enc s_, AV.fn g (caps f_)] []) (t_q44 (P f_) s_) fun c p => release p.2 depth p.1 = some ((fun c : Bool => enc c) c) := by
  have O := Hold.nil []
  generalize hB : (⟨[], []⟩ : Base) = B at O
  clear hB
  rw [e_q44]
  unfold t_q44
  refine kD0 (t := fun (q : Sl Symbol) (k : K) => t_q45 (P k) q) he_q45 (kCu _ _) (hs f_ _) (fun c1 => ?_)
  refine kB4 (kAe (by rfl) _ _) ?_
  refine kA1 (v := bv (decide (0 ≤ c1))) (aBin_geq _ _) ?_
  exact kA8 (kA7 (by rfl) _)
theorem kCp {g : Nat} {t : Symbol → Option Bool} (hg : kAp Try.prog g (C1 (fun c : Bool => enc c) t)) : kAp Try.prog n_q44 (C2 (fun c : Bool => enc c) (fun (q : Sl Symbol) (k : Clo0 g) => t_q44 ((fun _ : Clo0 g => t) k) q)) := kGo (kCq (kCw hg) E0) kBh hb_q44 fun q k => ts_q44 _ (caps := fun _ => []) (P := (fun _ : Clo0 g => t)) (fun k h => snapD_clo0 h g) (by simp [kC4]) q k
def t_q8 (list_ : Sl Symbol) : Option Bool :=
  kA0 (bif decide ((((list_.getD []).length : Nat) : Int) ≤ 8) then (kA0 (t_q44 (fun a => some ((fun s : Symbol => !kIn s) a)) list_) fun c2 => some (!c2)) else some false) fun c3 =>
  some (bif decide ((((list_.getD []).length : Nat) : Int) ≤ 8) then c3 else false)
theorem ts_q8 (env : Nat → Contract) (he_q44 : env n_q44 = .pure (C2 (fun c : Bool => enc c) (fun (q : Sl Symbol) (k : Clo0 n_q9) => t_q44 ((fun _ : Clo0 n_q9 => (fun a => some ((fun s : Symbol => !kIn s) a))) k) q))) (list_ : Sl Symbol) : Sim (kAh Try.prog env n_q8 [Sl.enc list_] []) (t_q8 list_) fun c p => release p.2 depth p.1 = some ((fun c : Bool => enc c) c) := by
  have O := Hold.nil []
  generalize hB : (⟨[], []⟩ : Base) = B at O
  clear hB
  rw [e_q8]
  unfold t_q8
  refine kA1 (v := iv (((list_.getD []).length : Nat) : Int)) (Tab.enc [] list_).len ?_
  refine kA1 (v := bv (decide ((((list_.getD []).length : Nat) : Int) ≤ 8))) (aBin_leq _ _) ?_
  refine sim_guardT (e := bv) (fun hb1 => ?_) (fun c3 => ?_)
  · refine kD0 (t := fun (q : Sl Symbol) (k : Clo0 n_q9) => t_q44 ((fun _ : Clo0 n_q9 => (fun a => some ((fun s : Symbol => !kIn s) a))) k) q) he_q44 (kCu _ _) (snapD_clo0 _ _) (fun c2 => ?_)
    refine kB4 (kAe (by rfl) _ _) ?_
    refine kA1 (v := bv (!c2)) (kD4 _) ?_
    exact kA8 rfl
  · refine kA1 (v := bv (bif decide ((((list_.getD []).length : Nat) : Int) ≤ 8) then c3 else false)) (pick_b _ _ _) ?_
    exact kA8 (kA7 (by rfl) _)
theorem tt_q8 : kAp Try.prog n_q8 (C1 (fun c : Bool => enc c) t_q8) := pureC1 (kCq (kCp (C1_T1 ok_q9)) E0) kBh hb_q8 fun list_ => ts_q8 _ (by simp [kC4]) list_
def s0_q11 (list_ : Sl Symbol) (set_ : Int) : (Int × Int × Int × Int × Bool × Int) → Option (Sum (Int × Int × Int × Int × Bool × Int) (Int × Int × Int × Int)) := fun (w9, w10, w11, w12, w15, w16) =>
  bif decide (w16 < (((list_.getD []).length : Nat) : Int)) then
    kA0 (kCo (list_.getD []) w16) fun a29 =>
    kA0 (shrO set_ w16) fun q39 =>
    bif decide (kF3 q39 1 = 0) then
      some (.inl (w9, w10, w11, w12, w15, wr (w16 + 1)))
    else
      bif w15 then
        kA0 (some (kBi (⟨w9, w10, w11, w12⟩ : Box) a29.box)) fun c43 =>
        some (.inl (c43.x1, c43.y1, c43.x2, c43.y2, w15, wr (w16 + 1)))
      else
        some (.inl (a29.box.x1, a29.box.y1, a29.box.x2, a29.box.y2, true, wr (w16 + 1)))
  else
    some (.inr (w9, w10, w11, w12))
def t_q11 (list_ : Sl Symbol) (set_ : Int) : Option Box :=
  kA0 (kBq (s0_q11 list_ set_) (0, 0, 0, 0, false, 0)) fun (q19, q20, q21, q22) =>
  some (⟨q19, q20, q21, q22⟩ : Box)
theorem tl0_q11 (env : Nat → Contract) {B : Base} (he_q14 : env n_q14 = .pure (T2 kBi)) (list_ : Sl Symbol) (set_ : Int) (o1 : Nat) (o5 : Nat)  {st : Int × Int × Int × Int × Bool × Int} {tm : TM} {h : kA6} (R : (fun (st : Int × Int × Int × Int × Bool × Int) tm h13 => match st with | (w9, w10, w11, w12, w15, w16) => tm = [Sl.enc list_, iv set_, und, und, AV.ptr o1 1 0 0, AV.ptr o5 1 0 0, bv w15, .top, .top, Sl.enc list_, iv (((list_.getD []).length : Nat) : Int), iv w16, .top, .top, .top, .top, .top, .top, .top, .top, .top, .top, .top, .top, .top, .top, .top, .top, .top, und] ∧ Hold B h13 [(AV.ptr o1 1 0 0, .pt 4 [iv 0, iv 0, iv 0, iv 0]), (AV.ptr o5 1 0 0, .pt 4 [iv w9, iv w10, iv w11, iv w12])]) st tm h) : Sim (kBx hm0_q11 xm0_q11 (lb0_q11 env) tm h) (kBq (s0_q11 list_ set_) st) (fun (q : Int × Int × Int × Int) (r : Res) => match q with | (q19, q20, q21, q22) => ∃ (q23 : Bool) (z24 : AV) (z25 : AV) (h17 : kA6), r = (.exit 0, [Sl.enc list_, iv set_, und, und, AV.ptr o1 1 0 0, AV.ptr o5 1 0 0, bv q23, z24, z25, Sl.enc list_, iv (((list_.getD []).length : Nat) : Int), .top, .top, .top, .top, .top, .top, .top, .top, .top, .top, .top, .top, .top, .top, .top, .top, .top, .top, und], h17) ∧ Hold B h17 [(AV.ptr o1 1 0 0, .pt 4 [iv 0, iv 0, iv 0, iv 0]), (AV.ptr o5 1 0 0, .pt 4 [iv q19, iv q20, iv q21, iv q22])]) := by
  refine kCe (Rel := fun (st : Int × Int × Int × Int × Bool × Int) tm h13 => match st with | (w9, w10, w11, w12, w15, w16) => tm = [Sl.enc list_, iv set_, und, und, AV.ptr o1 1 0 0, AV.ptr o5 1 0 0, bv w15, .top, .top, Sl.enc list_, iv (((list_.getD []).length : Nat) : Int), iv w16, .top, .top, .top, .top, .top, .top, .top, .top, .top, .top, .top, .top, .top, .top, .top, .top, .top, und] ∧ Hold B h13 [(AV.ptr o1 1 0 0, .pt 4 [iv 0, iv 0, iv 0, iv 0]), (AV.ptr o5 1 0 0, .pt 4 [iv w9, iv w10, iv w11, iv w12])]) (fun st tm h13 R => ?_) R
  obtain ⟨w9, w10, w11, w12, w15, w16⟩ := st
  obtain ⟨rfl, O14⟩ := R
  rw [e_lb0_q11]
  unfold s0_q11
  dsimp only
  refine kA1 (v := bv (decide (w16 < (((list_.getD []).length : Nat) : Int)))) (kB8 _ _) ?_
  refine kAc (fun c28 => ?_) (fun c28 => ?_)
  · refine kAo (Tab.enc h13 list_) (fun m30 a29 hi31 hm32 => ?_)
    refine kA1 (v := AV.agg [sv a29.label, iv a29.box.x1, iv a29.box.y1, iv a29.box.x2, iv a29.box.y2]) ((Tab.enc h13 list_).ld hm32 true 5 0) ?_
    refine kBd O14 (cs := [sv (⟨#[]⟩ : ByteArray), iv 0, iv 0, iv 0, iv 0]) (by first | rfl | simp) (fun o33 h34 O35 => ?_)
    replace O35 : Hold B h34 [(AV.ptr o1 1 0 0, .pt 4 [iv 0, iv 0, iv 0, iv 0]), (AV.ptr o5 1 0 0, .pt 4 [iv w9, iv w10, iv w11, iv w12]), (AV.ptr o33 1 0 0, .pt 5 [sv (⟨#[]⟩ : ByteArray), iv 0, iv 0, iv 0, iv 0])] := O35
    refine kAy O35 2 (cs' := [sv a29.label, iv a29.box.x1, iv a29.box.y1, iv a29.box.x2, iv a29.box.y2]) rfl (by first | rfl | simp) (by simp) (by first | rfl | simp) (by first | rfl | simp [kAi]) (fun h37 O38 => ?_)
    replace O38 : Hold B h37 [(AV.ptr o1 1 0 0, .pt 4 [iv 0, iv 0, iv 0, iv 0]), (AV.ptr o5 1 0 0, .pt 4 [iv w9, iv w10, iv w11, iv w12]), (AV.ptr o33 1 0 0, .pt 5 [sv a29.label, iv a29.box.x1, iv a29.box.y1, iv a29.box.x2, iv a29.box.y2])] := O38
    refine sim_shr (fun q39 => ?_)
    refine kA1 (v := iv (kF3 q39 1)) (kGb _ _) ?_
    refine kA1 (v := bv (decide (kF3 q39 1 = 0))) (kAv _ _) ?_
    refine kAc (fun c40 => ?_) (fun c40 => ?_)
    · refine kA1 (v := iv (wr (w16 + 1))) (kAd _ _) ?_
      have O41 : Hold B h37 [(AV.ptr o1 1 0 0, .pt 4 [iv 0, iv 0, iv 0, iv 0]), (AV.ptr o5 1 0 0, .pt 4 [iv w9, iv w10, iv w11, iv w12])] := O38.sel [0, 1] (by decide) rfl
      exact kA8 ⟨rfl, rfl, O41⟩
    · refine kAc (fun c42 => ?_) (fun c42 => ?_)
      · refine kA1 (v := AV.agg [iv w9, iv w10, iv w11, iv w12]) (O38.ld 1 rfl true 4 0) ?_
        refine kA1 (v := AV.ptr o33 1 0 1) rfl ?_
        refine kA1 (v := AV.agg [iv a29.box.x1, iv a29.box.y1, iv a29.box.x2, iv a29.box.y2]) (O38.ld 2 rfl true 4 1) ?_
        refine kDz (t := kBi) he_q14 (kAf _ (⟨w9, w10, w11, w12⟩ : Box) rfl) (kAf _ a29.box rfl) (fun c43 => ?_)
        refine kAy O38 1 (cs' := [iv c43.x1, iv c43.y1, iv c43.x2, iv c43.y2]) rfl (by first | rfl | simp) (by simp) (by first | rfl | simp) (by first | rfl | simp [kAi]) (fun h44 O45 => ?_)
        replace O45 : Hold B h44 [(AV.ptr o1 1 0 0, .pt 4 [iv 0, iv 0, iv 0, iv 0]), (AV.ptr o5 1 0 0, .pt 4 [iv c43.x1, iv c43.y1, iv c43.x2, iv c43.y2]), (AV.ptr o33 1 0 0, .pt 5 [sv a29.label, iv a29.box.x1, iv a29.box.y1, iv a29.box.x2, iv a29.box.y2])] := O45
        refine kA1 (v := iv (wr (w16 + 1))) (kAd _ _) ?_
        have O46 : Hold B h44 [(AV.ptr o1 1 0 0, .pt 4 [iv 0, iv 0, iv 0, iv 0]), (AV.ptr o5 1 0 0, .pt 4 [iv c43.x1, iv c43.y1, iv c43.x2, iv c43.y2])] := O45.sel [0, 1] (by decide) rfl
        exact kA8 ⟨rfl, rfl, O46⟩
      · refine kA1 (v := AV.ptr o33 1 0 1) rfl ?_
        refine kA1 (v := AV.agg [iv a29.box.x1, iv a29.box.y1, iv a29.box.x2, iv a29.box.y2]) (O38.ld 2 rfl true 4 1) ?_
        refine kAy O38 1 (cs' := [iv a29.box.x1, iv a29.box.y1, iv a29.box.x2, iv a29.box.y2]) rfl (by first | rfl | simp) (by simp) (by first | rfl | simp) (by first | rfl | simp [kAi]) (fun h47 O48 => ?_)
        replace O48 : Hold B h47 [(AV.ptr o1 1 0 0, .pt 4 [iv 0, iv 0, iv 0, iv 0]), (AV.ptr o5 1 0 0, .pt 4 [iv a29.box.x1, iv a29.box.y1, iv a29.box.x2, iv a29.box.y2]), (AV.ptr o33 1 0 0, .pt 5 [sv a29.label, iv a29.box.x1, iv a29.box.y1, iv a29.box.x2, iv a29.box.y2])] := O48
        refine kA1 (v := iv (wr (w16 + 1))) (kAd _ _) ?_
        have O49 : Hold B h47 [(AV.ptr o1 1 0 0, .pt 4 [iv 0, iv 0, iv 0, iv 0]), (AV.ptr o5 1 0 0, .pt 4 [iv a29.box.x1, iv a29.box.y1, iv a29.box.x2, iv a29.box.y2])] := O48.sel [0, 1] (by decide) rfl
        exact kA8 ⟨rfl, rfl, O49⟩
  · exact kA8 ⟨nofun, _, _, _, _, rfl, O14⟩
theorem ts_q11 (env : Nat → Contract) (he_q14 : env n_q14 = .pure (T2 kBi)) (list_ : Sl Symbol) (set_ : Int) : Sim (kAh Try.prog env n_q11 [Sl.enc list_, iv set_] []) (t_q11 list_ set_) fun c p => release p.2 depth p.1 = some ((fun c : Box => enc c) c) := by
  have O := Hold.nil []
  generalize hB : (⟨[], []⟩ : Base) = B at O
  clear hB
  rw [e_q11]
  unfold t_q11
  refine kBd O (cs := [iv 0, iv 0, iv 0, iv 0]) (by first | rfl | simp) (fun o1 h2 O3 => ?_)
  replace O3 : Hold B h2 [(AV.ptr o1 1 0 0, .pt 4 [iv 0, iv 0, iv 0, iv 0])] := O3
  refine kBd O3 (cs := [iv 0, iv 0, iv 0, iv 0]) (by first | rfl | simp) (fun o5 h6 O7 => ?_)
  replace O7 : Hold B h6 [(AV.ptr o1 1 0 0, .pt 4 [iv 0, iv 0, iv 0, iv 0]), (AV.ptr o5 1 0 0, .pt 4 [iv 0, iv 0, iv 0, iv 0])] := O7
  refine kA1 (v := iv (((list_.getD []).length : Nat) : Int)) (Tab.enc h6 list_).len ?_
  refine kCd ((tl0_q11 env he_q14 list_ set_ o1 o5) ⟨rfl, O7⟩) (fun qq52 r hq => ?_)
  obtain ⟨q19, q20, q21, q22⟩ := qq52
  obtain ⟨q23, z24, z25, h17, rfl, O18⟩ := hq
  rw [e_lk0x0_q11]
  refine kA1 (v := AV.agg [iv q19, iv q20, iv q21, iv q22]) (O18.ld 1 rfl true 4 0) ?_
  refine kAy O18 0 (cs' := [iv q19, iv q20, iv q21, iv q22]) rfl (by first | rfl | simp) (by simp) (by first | rfl | simp) (by first | rfl | simp [kAi]) (fun h26 O27 => ?_)
  replace O27 : Hold B h26 [(AV.ptr o1 1 0 0, .pt 4 [iv q19, iv q20, iv q21, iv q22]), (AV.ptr o5 1 0 0, .pt 4 [iv q19, iv q20, iv q21, iv q22])] := O27
  refine kGf (resL_c (v := AV.agg [iv q19, iv q20, iv q21, iv q22]) (O27.ld 0 rfl true 4 0) (kG2 _)) ?_
  dsimp only [pack]
  exact kA8 (kA7 (by rfl) _)
theorem tt_q11 : kAp Try.prog n_q11 (C2 (fun c : Box => enc c) t_q11) := kGo (kCq ok_q14 E0) kBh hb_q11 fun list_ set_ => ts_q11 _ (by simp [kC4]) list_ set_
def t_q15 (kind_ : Int) (a_ : Box) (b_ : Box) (s_ : Box) : Option (Int × Bool) :=
  bif decide (kind_ = 1) then
    kA0 (some (kFt (wr ((wr ((wr (a_.y1 + a_.y2)) - b_.y1)) - b_.y2)))) fun c14 =>
    kA0 (some (kAz a_ b_)) fun c15 =>
    some (wr (c14 + (max (wr (b_.x1 - a_.x2)) 0)), decide (c15 = 1))
  else
    bif decide (kind_ = 2) then
      kA0 (some (kFt (wr ((wr ((wr (a_.x1 + a_.x2)) - s_.x1)) - s_.x2)))) fun c17 =>
      kA0 (some (kFt (wr ((wr ((wr (b_.x1 + b_.x2)) - s_.x1)) - s_.x2)))) fun c18 =>
      kA0 (some (kAz s_ a_)) fun c19 =>
      kA0 (bif decide (c19 = 2) then (kA0 (some (kAz s_ b_)) fun c21 => some (decide (c21 = 3))) else some false) fun c22 =>
      some (wr (c17 + c18), (bif decide (c19 = 2) then c22 else false))
    else
      bif decide (kind_ = 3) then
        kA0 (some (kFt (wr (b_.x1 - a_.x2)))) fun c27 =>
        kA0 (some (kFt (wr (b_.y2 - a_.y1)))) fun c28 =>
        kA0 (some (kAz a_ b_)) fun c29 =>
        some (wr ((wr (c27 + c28)) + 20), decide (c29 = 4))
      else
        bif decide (kind_ = 4) then
          kA0 (some (kFt (wr (b_.x1 - a_.x2)))) fun c31 =>
          kA0 (some (kFt (wr (b_.y1 - a_.y2)))) fun c32 =>
          kA0 (some (kAz a_ b_)) fun c33 =>
          some (wr ((wr (c31 + c32)) + 20), decide (c33 = 5))
        else
          bif decide (kind_ = 5) then
            kA0 (some (kAz s_ a_)) fun c35 =>
            some (0, decide (c35 = 6))
          else
            some (0, false)
theorem ts_q15 (env : Nat → Contract) (he_q10 : env n_q10 = .pure (T1 kFt)) (he_q20 : env n_q20 = .pure (T2 kAz)) (kind_ : Int) (a_ : Box) (b_ : Box) (s_ : Box) : Sim (kAh Try.prog env n_q15 [iv kind_, AV.agg [iv a_.x1, iv a_.y1, iv a_.x2, iv a_.y2], AV.agg [iv b_.x1, iv b_.y1, iv b_.x2, iv b_.y2], AV.agg [iv s_.x1, iv s_.y1, iv s_.x2, iv s_.y2]] []) (t_q15 kind_ a_ b_ s_) fun c p => release p.2 depth p.1 = some ((fun c : Int × Bool => AV.tup [enc c.1, enc c.2]) c) := by
  have O := Hold.nil []
  generalize hB : (⟨[], []⟩ : Base) = B at O
  clear hB
  rw [e_q15]
  unfold t_q15
  refine kBd O (cs := [iv a_.x1, iv a_.y1, iv a_.x2, iv a_.y2]) (by first | rfl | simp) (fun o1 h2 O3 => ?_)
  replace O3 : Hold B h2 [(AV.ptr o1 1 0 0, .pt 4 [iv a_.x1, iv a_.y1, iv a_.x2, iv a_.y2])] := O3
  refine kBd O3 (cs := [iv b_.x1, iv b_.y1, iv b_.x2, iv b_.y2]) (by first | rfl | simp) (fun o5 h6 O7 => ?_)
  replace O7 : Hold B h6 [(AV.ptr o1 1 0 0, .pt 4 [iv a_.x1, iv a_.y1, iv a_.x2, iv a_.y2]), (AV.ptr o5 1 0 0, .pt 4 [iv b_.x1, iv b_.y1, iv b_.x2, iv b_.y2])] := O7
  refine kBd O7 (cs := [iv s_.x1, iv s_.y1, iv s_.x2, iv s_.y2]) (by first | rfl | simp) (fun o9 h10 O11 => ?_)
  replace O11 : Hold B h10 [(AV.ptr o1 1 0 0, .pt 4 [iv a_.x1, iv a_.y1, iv a_.x2, iv a_.y2]), (AV.ptr o5 1 0 0, .pt 4 [iv b_.x1, iv b_.y1, iv b_.x2, iv b_.y2]), (AV.ptr o9 1 0 0, .pt 4 [iv s_.x1, iv s_.y1, iv s_.x2, iv s_.y2])] := O11
  refine kA1 (v := bv (decide (kind_ = 1))) (kAv _ _) ?_
  refine kAc (fun c13 => ?_) (fun c13 => ?_)
  · refine kA1 (v := AV.ptr o1 1 0 1) rfl ?_
    refine kA1 (v := iv a_.y1) (O11.ld 0 rfl false 1 1) ?_
    refine kA1 (v := AV.ptr o1 1 0 3) rfl ?_
    refine kA1 (v := iv a_.y2) (O11.ld 0 rfl false 1 3) ?_
    refine kA1 (v := iv (wr (a_.y1 + a_.y2))) (kAd _ _) ?_
    refine kA1 (v := AV.ptr o5 1 0 1) rfl ?_
    refine kA1 (v := iv b_.y1) (O11.ld 1 rfl false 1 1) ?_
    refine kA1 (v := iv (wr ((wr (a_.y1 + a_.y2)) - b_.y1))) (kB2 _ _) ?_
    refine kA1 (v := AV.ptr o5 1 0 3) rfl ?_
    refine kA1 (v := iv b_.y2) (O11.ld 1 rfl false 1 3) ?_
    refine kA1 (v := iv (wr ((wr ((wr (a_.y1 + a_.y2)) - b_.y1)) - b_.y2))) (kB2 _ _) ?_
    refine kBw (t := kFt) he_q10 (kAm _ _) (fun c14 => ?_)
    refine kA1 (v := AV.ptr o5 1 0 0) rfl ?_
    refine kA1 (v := iv b_.x1) (O11.ld 1 rfl false 1 0) ?_
    refine kA1 (v := AV.ptr o1 1 0 2) rfl ?_
    refine kA1 (v := iv a_.x2) (O11.ld 0 rfl false 1 2) ?_
    refine kA1 (v := iv (wr (b_.x1 - a_.x2))) (kB2 _ _) ?_
    refine kA1 (v := iv (max (wr (b_.x1 - a_.x2)) 0)) (aFold_max _ _) ?_
    refine kA1 (v := iv (wr (c14 + (max (wr (b_.x1 - a_.x2)) 0)))) (kAd _ _) ?_
    refine kA1 (v := AV.agg [iv a_.x1, iv a_.y1, iv a_.x2, iv a_.y2]) (O11.ld 0 rfl true 4 0) ?_
    refine kA1 (v := AV.agg [iv b_.x1, iv b_.y1, iv b_.x2, iv b_.y2]) (O11.ld 1 rfl true 4 0) ?_
    refine kC2 (t := kAz) he_q20 (kAf _ a_ rfl) (kAf _ b_ rfl) (fun c15 => ?_)
    refine kA1 (v := bv (decide (c15 = 1))) (kAv _ _) ?_
    exact kA8 (kA7 (by rfl) _)
  · refine kA1 (v := bv (decide (kind_ = 2))) (kAv _ _) ?_
    refine kAc (fun c16 => ?_) (fun c16 => ?_)
    · refine kA1 (v := AV.ptr o1 1 0 0) rfl ?_
      refine kA1 (v := iv a_.x1) (O11.ld 0 rfl false 1 0) ?_
      refine kA1 (v := AV.ptr o1 1 0 2) rfl ?_
      refine kA1 (v := iv a_.x2) (O11.ld 0 rfl false 1 2) ?_
      refine kA1 (v := iv (wr (a_.x1 + a_.x2))) (kAd _ _) ?_
      refine kA1 (v := AV.ptr o9 1 0 0) rfl ?_
      refine kA1 (v := iv s_.x1) (O11.ld 2 rfl false 1 0) ?_
      refine kA1 (v := iv (wr ((wr (a_.x1 + a_.x2)) - s_.x1))) (kB2 _ _) ?_
      refine kA1 (v := AV.ptr o9 1 0 2) rfl ?_
      refine kA1 (v := iv s_.x2) (O11.ld 2 rfl false 1 2) ?_
      refine kA1 (v := iv (wr ((wr ((wr (a_.x1 + a_.x2)) - s_.x1)) - s_.x2))) (kB2 _ _) ?_
      refine kBw (t := kFt) he_q10 (kAm _ _) (fun c17 => ?_)
      refine kA1 (v := AV.ptr o5 1 0 0) rfl ?_
      refine kA1 (v := iv b_.x1) (O11.ld 1 rfl false 1 0) ?_
      refine kA1 (v := AV.ptr o5 1 0 2) rfl ?_
      refine kA1 (v := iv b_.x2) (O11.ld 1 rfl false 1 2) ?_
      refine kA1 (v := iv (wr (b_.x1 + b_.x2))) (kAd _ _) ?_
      refine kA1 (v := AV.ptr o9 1 0 0) rfl ?_
      refine kA1 (v := iv s_.x1) (O11.ld 2 rfl false 1 0) ?_
      refine kA1 (v := iv (wr ((wr (b_.x1 + b_.x2)) - s_.x1))) (kB2 _ _) ?_
      refine kA1 (v := AV.ptr o9 1 0 2) rfl ?_
      refine kA1 (v := iv s_.x2) (O11.ld 2 rfl false 1 2) ?_
      refine kA1 (v := iv (wr ((wr ((wr (b_.x1 + b_.x2)) - s_.x1)) - s_.x2))) (kB2 _ _) ?_
      refine kBw (t := kFt) he_q10 (kAm _ _) (fun c18 => ?_)
      refine kA1 (v := iv (wr (c17 + c18))) (kAd _ _) ?_
      refine kA1 (v := AV.agg [iv s_.x1, iv s_.y1, iv s_.x2, iv s_.y2]) (O11.ld 2 rfl true 4 0) ?_
      refine kA1 (v := AV.agg [iv a_.x1, iv a_.y1, iv a_.x2, iv a_.y2]) (O11.ld 0 rfl true 4 0) ?_
      refine kC2 (t := kAz) he_q20 (kAf _ s_ rfl) (kAf _ a_ rfl) (fun c19 => ?_)
      refine kA1 (v := bv (decide (c19 = 2))) (kAv _ _) ?_
      refine sim_g4T (e := bv) (fun hb20 => ?_) (fun y23 y24 y25 c22 => ?_)
      · refine kCh ?_
        refine kA1 (v := AV.agg [iv s_.x1, iv s_.y1, iv s_.x2, iv s_.y2]) (O11.ld 2 rfl true 4 0) ?_
        refine kBp ?_
        refine kCh ?_
        refine kA1 (v := AV.agg [iv b_.x1, iv b_.y1, iv b_.x2, iv b_.y2]) (O11.ld 1 rfl true 4 0) ?_
        refine kBp ?_
        refine sim_o2 ?_
        refine kC2 (t := kAz) he_q20 (kAf _ s_ rfl) (kAf _ b_ rfl) (fun c21 => ?_)
        refine kBp ?_
        refine kA1 (v := bv (decide (c21 = 3))) (kAv _ _) ?_
        exact kA8 rfl
      · refine kA1 (v := bv (bif decide (c19 = 2) then c22 else false)) (pick_b _ _ _) ?_
        exact kA8 (kA7 (by rfl) _)
    · refine kA1 (v := bv (decide (kind_ = 3))) (kAv _ _) ?_
      refine kAc (fun c26 => ?_) (fun c26 => ?_)
      · refine kA1 (v := AV.ptr o5 1 0 0) rfl ?_
        refine kA1 (v := iv b_.x1) (O11.ld 1 rfl false 1 0) ?_
        refine kA1 (v := AV.ptr o1 1 0 2) rfl ?_
        refine kA1 (v := iv a_.x2) (O11.ld 0 rfl false 1 2) ?_
        refine kA1 (v := iv (wr (b_.x1 - a_.x2))) (kB2 _ _) ?_
        refine kBw (t := kFt) he_q10 (kAm _ _) (fun c27 => ?_)
        refine kA1 (v := AV.ptr o5 1 0 3) rfl ?_
        refine kA1 (v := iv b_.y2) (O11.ld 1 rfl false 1 3) ?_
        refine kA1 (v := AV.ptr o1 1 0 1) rfl ?_
        refine kA1 (v := iv a_.y1) (O11.ld 0 rfl false 1 1) ?_
        refine kA1 (v := iv (wr (b_.y2 - a_.y1))) (kB2 _ _) ?_
        refine kBw (t := kFt) he_q10 (kAm _ _) (fun c28 => ?_)
        refine kA1 (v := iv (wr (c27 + c28))) (kAd _ _) ?_
        refine kA1 (v := iv (wr ((wr (c27 + c28)) + 20))) (kAd _ _) ?_
        refine kA1 (v := AV.agg [iv a_.x1, iv a_.y1, iv a_.x2, iv a_.y2]) (O11.ld 0 rfl true 4 0) ?_
        refine kA1 (v := AV.agg [iv b_.x1, iv b_.y1, iv b_.x2, iv b_.y2]) (O11.ld 1 rfl true 4 0) ?_
        refine kC2 (t := kAz) he_q20 (kAf _ a_ rfl) (kAf _ b_ rfl) (fun c29 => ?_)
        refine kA1 (v := bv (decide (c29 = 4))) (kAv _ _) ?_
        exact kA8 (kA7 (by rfl) _)
      · refine kA1 (v := bv (decide (kind_ = 4))) (kAv _ _) ?_
        refine kAc (fun c30 => ?_) (fun c30 => ?_)
        · refine kA1 (v := AV.ptr o5 1 0 0) rfl ?_
          refine kA1 (v := iv b_.x1) (O11.ld 1 rfl false 1 0) ?_
          refine kA1 (v := AV.ptr o1 1 0 2) rfl ?_
          refine kA1 (v := iv a_.x2) (O11.ld 0 rfl false 1 2) ?_
          refine kA1 (v := iv (wr (b_.x1 - a_.x2))) (kB2 _ _) ?_
          refine kBw (t := kFt) he_q10 (kAm _ _) (fun c31 => ?_)
          refine kA1 (v := AV.ptr o5 1 0 1) rfl ?_
          refine kA1 (v := iv b_.y1) (O11.ld 1 rfl false 1 1) ?_
          refine kA1 (v := AV.ptr o1 1 0 3) rfl ?_
          refine kA1 (v := iv a_.y2) (O11.ld 0 rfl false 1 3) ?_
          refine kA1 (v := iv (wr (b_.y1 - a_.y2))) (kB2 _ _) ?_
          refine kBw (t := kFt) he_q10 (kAm _ _) (fun c32 => ?_)
          refine kA1 (v := iv (wr (c31 + c32))) (kAd _ _) ?_
          refine kA1 (v := iv (wr ((wr (c31 + c32)) + 20))) (kAd _ _) ?_
          refine kA1 (v := AV.agg [iv a_.x1, iv a_.y1, iv a_.x2, iv a_.y2]) (O11.ld 0 rfl true 4 0) ?_
          refine kA1 (v := AV.agg [iv b_.x1, iv b_.y1, iv b_.x2, iv b_.y2]) (O11.ld 1 rfl true 4 0) ?_
          refine kC2 (t := kAz) he_q20 (kAf _ a_ rfl) (kAf _ b_ rfl) (fun c33 => ?_)
          refine kA1 (v := bv (decide (c33 = 5))) (kAv _ _) ?_
          exact kA8 (kA7 (by rfl) _)
        · refine kA1 (v := bv (decide (kind_ = 5))) (kAv _ _) ?_
          refine kAc (fun c34 => ?_) (fun c34 => ?_)
          · refine kA1 (v := AV.agg [iv s_.x1, iv s_.y1, iv s_.x2, iv s_.y2]) (O11.ld 2 rfl true 4 0) ?_
            refine kA1 (v := AV.agg [iv a_.x1, iv a_.y1, iv a_.x2, iv a_.y2]) (O11.ld 0 rfl true 4 0) ?_
            refine kDz (t := kAz) he_q20 (kAf _ s_ rfl) (kAf _ a_ rfl) (fun c35 => ?_)
            refine kA1 (v := bv (decide (c35 = 6))) (kAv _ _) ?_
            exact kA8 (kA7 (by rfl) _)
          · exact kA8 (kA7 (by rfl) _)
theorem tt_q15 : kAp Try.prog n_q15 (C4 (fun c : Int × Bool => AV.tup [enc c.1, enc c.2]) t_q15) := pureC4 (kCq ok_q10 (kCq ok_q20 E0)) kBh hb_q15 fun kind_ a_ b_ s_ => ts_q15 _ (by simp [kC4]) (by simp [kC4]) kind_ a_ b_ s_
def t_q3 (x_ : Int) : Option Bool :=
  some (!decide (x_ = x_))
theorem ts_q3 (env : Nat → Contract)  (x_ : Int) : Sim (kAh Try.prog env n_q3 [iv x_] []) (t_q3 x_) fun c p => release p.2 depth p.1 = some ((fun c : Bool => enc c) c) := by
  have O := Hold.nil []
  generalize hB : (⟨[], []⟩ : Base) = B at O
  clear hB
  rw [e_q3]
  unfold t_q3
  refine kA1 (v := bv (!decide (x_ = x_))) (kCi _ _) ?_
  exact kA8 (kA7 (by rfl) _)
theorem tt_q3 : kAp Try.prog n_q3 (C1 (fun c : Bool => enc c) t_q3) := pureC1 E0 kBh hb_q3 fun x_ => ts_q3 _  x_
def t_q0 (x_ : Int) (y_ : Int) : Option Int :=
  kA0 (t_q3 x_) fun c1 =>
  kA0 (t_q3 y_) fun c2 =>
  bif c1 then
    bif c2 then
      some 0
    else
      some (-1)
  else
    bif c2 then
      some 1
    else
      bif decide (x_ < y_) then
        some (-1)
      else
        bif decide (y_ < x_) then
          some 1
        else
          some 0
theorem ts_q0 (env : Nat → Contract) (he_q3 : env n_q3 = .pure (C1 (fun c : Bool => enc c) t_q3)) (x_ : Int) (y_ : Int) : Sim (kAh Try.prog env n_q0 [iv x_, iv y_] []) (t_q0 x_ y_) fun c p => release p.2 depth p.1 = some ((fun c : Int => enc c) c) := by
  have O := Hold.nil []
  generalize hB : (⟨[], []⟩ : Base) = B at O
  clear hB
  rw [e_q0]
  unfold t_q0
  refine kCc he_q3 (kAm _ _) (fun c1 => ?_)
  refine kB4 (kAe (by rfl) _ _) ?_
  refine kCc he_q3 (kAm _ _) (fun c2 => ?_)
  refine kB4 (kAe (by rfl) _ _) ?_
  refine kAc (fun c3 => ?_) (fun c3 => ?_)
  · refine kAc (fun c4 => ?_) (fun c4 => ?_)
    · exact kA8 (kA7 (by rfl) _)
    · exact kA8 (kA7 (by rfl) _)
  · refine kAc (fun c5 => ?_) (fun c5 => ?_)
    · exact kA8 (kA7 (by rfl) _)
    · refine kA1 (v := bv (decide (x_ < y_))) (kB8 _ _) ?_
      refine kAc (fun c6 => ?_) (fun c6 => ?_)
      · exact kA8 (kA7 (by rfl) _)
      · refine kA1 (v := bv (decide (y_ < x_))) (aBin_gtr _ _) ?_
        refine kAc (fun c7 => ?_) (fun c7 => ?_)
        · exact kA8 (kA7 (by rfl) _)
        · exact kA8 (kA7 (by rfl) _)
theorem tt_q0 : kAp Try.prog n_q0 (C2 (fun c : Int => enc c) t_q0) := kGo (kCq tt_q3 E0) kBh hb_q0 fun x_ y_ => ts_q0 _ (by simp [kC4]) x_ y_
def t_q12 (x_ : Choice) (y_ : Choice) : Option Int :=
  kA0 (some (cmpI x_.cost y_.cost)) fun c9 =>
  kA0 (some (cmpI x_.kind y_.kind)) fun c10 =>
  kA0 (some (cmpI x_.sign y_.sign)) fun c11 =>
  kA0 (t_q0 x_.a y_.a) fun c12 =>
  kA0 (t_q2 (some ([c9, c10, c11, c12] : List Int))) fun c17 =>
  some c17
theorem ts_q12 (env : Nat → Contract) (he_q0 : env n_q0 = .pure (C2 (fun c : Int => enc c) t_q0)) (he_q1 : env n_q1 = .pure (T2 cmpI)) (he_q2 : env n_q2 = .pure (C1 (fun c : Int => enc c) t_q2)) (x_ : Choice) (y_ : Choice) : Sim (kAh Try.prog env n_q12 [AV.agg [iv x_.kind, iv x_.sign, iv x_.a, iv x_.b, iv x_.cost], AV.agg [iv y_.kind, iv y_.sign, iv y_.a, iv y_.b, iv y_.cost]] []) (t_q12 x_ y_) fun c p => release p.2 depth p.1 = some ((fun c : Int => enc c) c) := by
  have O := Hold.nil []
  generalize hB : (⟨[], []⟩ : Base) = B at O
  clear hB
  rw [e_q12]
  unfold t_q12
  refine kBd O (cs := [iv x_.kind, iv x_.sign, iv x_.a, iv x_.b, iv x_.cost]) (by first | rfl | simp) (fun o1 h2 O3 => ?_)
  replace O3 : Hold B h2 [(AV.ptr o1 1 0 0, .pt 5 [iv x_.kind, iv x_.sign, iv x_.a, iv x_.b, iv x_.cost])] := O3
  refine kBd O3 (cs := [iv y_.kind, iv y_.sign, iv y_.a, iv y_.b, iv y_.cost]) (by first | rfl | simp) (fun o5 h6 O7 => ?_)
  replace O7 : Hold B h6 [(AV.ptr o1 1 0 0, .pt 5 [iv x_.kind, iv x_.sign, iv x_.a, iv x_.b, iv x_.cost]), (AV.ptr o5 1 0 0, .pt 5 [iv y_.kind, iv y_.sign, iv y_.a, iv y_.b, iv y_.cost])] := O7
  refine kA1 (v := AV.ptr o1 1 0 4) rfl ?_
  refine kA1 (v := iv x_.cost) (O7.ld 0 rfl false 1 4) ?_
  refine kA1 (v := AV.ptr o5 1 0 4) rfl ?_
  refine kA1 (v := iv y_.cost) (O7.ld 1 rfl false 1 4) ?_
  refine kC2 (t := cmpI) he_q1 (kAm _ _) (kAm _ _) (fun c9 => ?_)
  refine kA1 (v := AV.ptr o1 1 0 0) rfl ?_
  refine kA1 (v := iv x_.kind) (O7.ld 0 rfl false 1 0) ?_
  refine kA1 (v := AV.ptr o5 1 0 0) rfl ?_
  refine kA1 (v := iv y_.kind) (O7.ld 1 rfl false 1 0) ?_
  refine kC2 (t := cmpI) he_q1 (kAm _ _) (kAm _ _) (fun c10 => ?_)
  refine kA1 (v := AV.ptr o1 1 0 1) rfl ?_
  refine kA1 (v := iv x_.sign) (O7.ld 0 rfl false 1 1) ?_
  refine kA1 (v := AV.ptr o5 1 0 1) rfl ?_
  refine kA1 (v := iv y_.sign) (O7.ld 1 rfl false 1 1) ?_
  refine kC2 (t := cmpI) he_q1 (kAm _ _) (kAm _ _) (fun c11 => ?_)
  refine kA1 (v := AV.ptr o1 1 0 2) rfl ?_
  refine kA1 (v := iv x_.a) (O7.ld 0 rfl false 1 2) ?_
  refine kA1 (v := AV.ptr o5 1 0 2) rfl ?_
  refine kA1 (v := iv y_.a) (O7.ld 1 rfl false 1 2) ?_
  refine kHq he_q0 (kAm _ _) (kAm _ _) (fun c12 => ?_)
  refine kB4 (kAe (by rfl) _ _) ?_
  refine kDq (A := Int) O7 ([c9, c10, c11, c12] : List Int) rfl (by first | rfl | simp [kC5, kF6]) rfl (fun x13 h14 O15 => ?_)
  replace O15 : Hold B h14 [(AV.ptr o1 1 0 0, .pt 5 [iv x_.kind, iv x_.sign, iv x_.a, iv x_.b, iv x_.cost]), (AV.ptr o5 1 0 0, .pt 5 [iv y_.kind, iv y_.sign, iv y_.a, iv y_.b, iv y_.cost]), (x13, obS ((some ([c9, c10, c11, c12] : List Int)) : Sl Int))] := O15
  refine sim_callQ1 he_q2 ((O15.tab (A := Int) (s := (some ([c9, c10, c11, c12] : List Int))) 2 rfl).snap) (fun c17 => ?_)
  refine kB4 (kAe (by rfl) _ _) ?_
  exact kA8 (kA7 (by rfl) _)
theorem tt_q12 : kAp Try.prog n_q12 (C2 (fun c : Int => enc c) t_q12) := kGo (kCq tt_q0 (kCq ok_q1 (kCq tt_q2 E0))) kBh hb_q12 fun x_ y_ => ts_q12 _ (by simp [kC4]) (by simp [kC4]) (by simp [kC4]) x_ y_
def t_q19 (p_ : Parser) (set_ : Int) (c_ : Choice) (sign_ : Box) : Option Parser :=
  kA0 (kCo (p_.count.getD []) c_.a) fun a9 =>
  kA0 (bif decide (a9 = 0) then some false else (some (!decide (c_.b = 0)))) fun c14 =>
  kA0 (bif (!(decide (a9 = 0)) && c14) then (kA0 (kCo (p_.count.getD []) c_.b) fun a19 => some (decide (a19 = 0))) else some false) fun c23 =>
  kA0 (bif decide (a9 = 0) then some false else (some (bif c14 then c23 else false))) fun c33 =>
  bif (bif decide (a9 = 0) then true else c33) then
    some (⟨p_.list, p_.boxes, p_.best, p_.count⟩ : Parser)
  else
    kA0 (kCo (p_.count.getD []) c_.a) fun a36 =>
    kA0 (kCo (p_.best.getD []) c_.a) fun a40 =>
    kA0 (kCo (p_.boxes.getD []) c_.a) fun a44 =>
    bif !decide (c_.b = 0) then
      kA0 (kCo (p_.count.getD []) c_.b) fun a55 =>
      kA0 (kCo (p_.best.getD []) c_.b) fun a59 =>
      kA0 (kCo (p_.boxes.getD []) c_.b) fun a63 =>
      kA0 (kCo (p_.boxes.getD []) c_.a) fun a69 =>
      kA0 (t_q15 c_.kind a69 a63 sign_) fun c73 =>
      bif !c73.2 then
        some (⟨p_.list, p_.boxes, p_.best, p_.count⟩ : Parser)
      else
        kA0 (kCo (p_.count.getD []) set_) fun a78 =>
        kA0 (bif decide (a78 = 0) then some false else (kA0 (kCo (p_.best.getD []) set_) fun a83 => kA0 (t_q12 (⟨c_.kind, c_.sign, c_.a, c_.b, wr ((wr (a40.cost + a59.cost)) + c73.1)⟩ : Choice) a83) fun c87 => some (decide (c87 < 0)))) fun c88 =>
        bif (bif decide (a78 = 0) then true else c88) then
          kA0 (kCo (p_.best.getD []) set_) fun a99 =>
          kA0 (kCo (p_.count.getD []) set_) fun a105 =>
          kA0 (kCo (p_.count.getD []) set_) fun a109 =>
          some (⟨p_.list, p_.boxes, (kB1 p_.best set_ (⟨c_.kind, c_.sign, c_.a, c_.b, wr ((wr (a40.cost + a59.cost)) + c73.1)⟩ : Choice)), (kB1 p_.count set_ (wr (a105 + (wr (a36 * a55)))))⟩ : Parser)
        else
          kA0 (kCo (p_.count.getD []) set_) fun a116 =>
          kA0 (kCo (p_.count.getD []) set_) fun a120 =>
          some (⟨p_.list, p_.boxes, p_.best, (kB1 p_.count set_ (wr (a116 + (wr (a36 * a55)))))⟩ : Parser)
    else
      kA0 (kCo (p_.boxes.getD []) c_.a) fun a127 =>
      kA0 (t_q15 c_.kind a127 a44 sign_) fun c131 =>
      bif !c131.2 then
        some (⟨p_.list, p_.boxes, p_.best, p_.count⟩ : Parser)
      else
        kA0 (kCo (p_.count.getD []) set_) fun a136 =>
        kA0 (bif decide (a136 = 0) then some false else (kA0 (kCo (p_.best.getD []) set_) fun a141 => kA0 (t_q12 (⟨c_.kind, c_.sign, c_.a, c_.b, wr (a40.cost + c131.1)⟩ : Choice) a141) fun c145 => some (decide (c145 < 0)))) fun c146 =>
        bif (bif decide (a136 = 0) then true else c146) then
          kA0 (kCo (p_.best.getD []) set_) fun a157 =>
          kA0 (kCo (p_.count.getD []) set_) fun a163 =>
          kA0 (kCo (p_.count.getD []) set_) fun a167 =>
          some (⟨p_.list, p_.boxes, (kB1 p_.best set_ (⟨c_.kind, c_.sign, c_.a, c_.b, wr (a40.cost + c131.1)⟩ : Choice)), (kB1 p_.count set_ (wr (a163 + a36)))⟩ : Parser)
        else
          kA0 (kCo (p_.count.getD []) set_) fun a174 =>
          kA0 (kCo (p_.count.getD []) set_) fun a178 =>
          some (⟨p_.list, p_.boxes, p_.best, (kB1 p_.count set_ (wr (a174 + a36)))⟩ : Parser)
end Go.Proofs.Ytokbncnochagaaa
