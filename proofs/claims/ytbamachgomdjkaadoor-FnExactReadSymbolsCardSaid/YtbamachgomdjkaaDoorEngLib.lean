/-
  THE ENGINE, PART 39: bytes and strings in the typed layer; contracts of the library's functions on strings.
-/
import Derived.Test.YtbamachgomdjkaaDoorEngDoor
import Derived.Lib.ItoaNum
import Derived.Lib.Strings
namespace Go.Eng
set_option linter.unusedVariables false
set_option linter.unusedSimpArgs false
open Go.RowKit Go.Sort
open Cod (enc dec)

/-! ### []byte(s), string(b) -/

def bytesO (s : ByteArray) : Option (List UInt8) := if s.size ≤ 4294967296 then some (bl s) else none
theorem sim_bytes {γ δ : Type} {B : Base} {h : Heap} {L : List Ent} (O : Hold B h L) {s : ByteArray} {F : AV → Heap → Option γ} {G : List UInt8 → Option δ} {Q : δ → γ → Prop}
    (K : ∀ l x' h', Hold B h' (L ++ [(x', obS (some l))]) → Sim (F x' h') (G l) Q) : Sim (obind2 (aConvBytes (sv s) h) F) (obind (bytesO s) G) Q := by
  unfold bytesO
  split
  · rename_i hs
    rw [conv_bytes s h hs, obind_sm]
    have := O.alloc (.sl (Row.w UInt8) ((bl s).map Row.cells)) rfl
    refine K _ _ _ ?_
    simpa [EV.at, obS] using this
  · exact sim_no
def strL (l : List UInt8) : ByteArray := ⟨l.toArray⟩
theorem bytesOf_cells : ∀ l : List UInt8, bytesOf (l.map Row.cells) = some l
  | [] => rfl
  | b :: l => by
    have h : ((b.toNat : Int).toNat).toUInt8 = b := by simp
    show (match bytesOf (l.map Row.cells) with | some r => some (((b.toNat : Int).toNat).toUInt8 :: r) | none => none) = _
    rw [bytesOf_cells l, h]
theorem conv_str {x : AV} {h : Heap} {s : Sl UInt8} (hs : aSrc false (Row.w UInt8) x h = some ((s.getD []).map Row.cells)) : aConvStr x h = some (sv (strL (s.getD []))) := by
  have h1 : aSrc false 1 x h = some ((s.getD []).map Row.cells) := hs
  unfold aConvStr
  rw [h1]
  simp only [bytesOf_cells]
  rfl

theorem byte_sub (a b : UInt8) : aBin .sub (bt a) (bt b) = some (bt (byteI ((a.toNat : Int) - (b.toNat : Int)))) := by
  have h0 : aBin .sub (bt a) (bt b) = some (.sc (.int .u8 (IntKind.u8.wrap ((a.toNat : Int) - (b.toNat : Int))))) := rfl
  have h1 := conv_u8 ((a.toNat : Int) - (b.toNat : Int))
  have h2 : aConvInt .u8 (iv ((a.toNat : Int) - (b.toNat : Int))) = some (.sc (.int .u8 (IntKind.u8.wrap ((a.toNat : Int) - (b.toNat : Int))))) := rfl
  rw [h0, ← h2, h1]
theorem byte_add (a b : UInt8) : aBin .add (bt a) (bt b) = some (bt (byteI ((a.toNat : Int) + (b.toNat : Int)))) := by
  have h0 : aBin .add (bt a) (bt b) = some (.sc (.int .u8 (IntKind.u8.wrap ((a.toNat : Int) + (b.toNat : Int))))) := rfl
  have h1 := conv_u8 ((a.toNat : Int) + (b.toNat : Int))
  have h2 : aConvInt .u8 (iv ((a.toNat : Int) + (b.toNat : Int))) = some (.sc (.int .u8 (IntKind.u8.wrap ((a.toNat : Int) + (b.toNat : Int))))) := rfl
  rw [h0, ← h2, h1]

theorem str_gtr (a b : ByteArray) : aBin .gtr (sv a) (sv b) = some (bv !(ltS a b || decide (a = b))) := aBin_gtrS a b
theorem str_geq (a b : ByteArray) : aBin .geq (sv a) (sv b) = some (bv (!ltS a b)) := rfl
theorem str_leq (a b : ByteArray) : aBin .leq (sv a) (sv b) = some (bv (ltS a b || decide (a = b))) := by
  have : aBin .leq (sv a) (sv b) = some (bv (Op.bytesLess a.toList b.toList || a.toList == b.toList)) := rfl
  rw [this, beq_toList]
  rfl

/-! ### Functions of the library that hand back a string or a number -/

theorem pure_quiet {P : Program} {g : Nat} (hbody : HasBody P g) {F : List AV → Option AV}
    (hF : ∀ ds r, F ds = some r → ∃ (us : List Value) (v : Value), ds = us.map AV.sc ∧ r = .sc v ∧ v.oneCell' = true ∧ ∀ w, Glob P w → Calls P g us.toArray w fun e w' => e = .returned v ∧ ∃ n os, w' = grow (w.drewN n) os) : PureOK P g F := by
  intro ds r hr X w vs hg hs hvs
  obtain ⟨us, v, rfl, rfl, hv, hu⟩ := hF ds r hr
  have : vs = us.toArray := by
    apply Array.ext
    · simpa using hs
    · intro i h1 h2
      have h3 : i < us.length := by simpa using h2
      have h4 := hvs i (.sc us[i]) vs[i] (by simp [h3]) (by simp [h1])
      have h5 : vs[i] = us[i] := by
        generalize vs[i] = a at h4
        generalize us[i] = b at h4
        cases h4
        rfl
      simpa using h5
  subst this
  unfold CallF
  rw [callFunc_body hbody]
  refine (hu w hg).mono fun e w' ⟨h1, n, os, h2⟩ => ?_
  subst h1 h2
  have hsz : w.heap.size ≤ (grow (w.drewN n) os).heap.size := by
    rw [size_grow]
    show w.heap.size ≤ w.heap.size + _
    omega
  exact ⟨v, rfl, ⟨⟨rfl, rfl, rfl, hsz, fun b hb => heap_grow_old (w.drewN n) os hb⟩, fun _ => Nat.le_add_right _ _⟩, repN_sc hv⟩

def itS (n : Int) : ByteArray := strL (Lib.itoa n)
def fmtO (n b : Int) : Option ByteArray := bif decide (b = 10) && (decide (-9223372036854775808 ≤ n) && decide (n ≤ 9223372036854775807)) then some (itS n) else none
/-- 'strconv.FormatInt' to base 10. -/
theorem pure_formatInt {P : Program} {g : Nat} (hbody : HasBody P g) (hg : (P.globalNamed "internal/strconv.uint64pow10").isSome = true)
    (hc : ∀ n : Int, -9223372036854775808 ≤ n → n ≤ 9223372036854775807 → ∀ w, Lib.TabIs P w "internal/strconv.uint64pow10" .u64 Lib.pow10Tab →
      Calls P g #[.int .i64 n, .int .i64 10] w fun e w' => e = .returned (.string ⟨(Lib.itoa n).toArray⟩) ∧ ∃ k os, w' = grow (w.drewN k) os) : PureOK P g (C2 (fun c : ByteArray => enc c) fmtO) :=
  pure_quiet hbody fun ds r h => by
    match ds, h with
    | [x0, x1], h =>
      have h1 : obind (dec x0 : Option Int) (fun n => obind (dec x1 : Option Int) fun b => obind (fmtO n b) fun c => some (enc c)) = some r := h
      obtain ⟨n, e1, h2⟩ := obind_ex h1
      obtain ⟨b, e2, h3⟩ := obind_ex h2
      obtain ⟨c, e3, h4⟩ := obind_ex h3
      have q1 := Cod.ed _ _ e1
      have q2 := Cod.ed _ _ e2
      have q3 := Option.some.inj h4
      unfold fmtO at e3
      cases d : decide (b = 10) && (decide (-9223372036854775808 ≤ n) && decide (n ≤ 9223372036854775807)) with
      | false => rw [d] at e3; cases e3
      | true =>
        rw [d] at e3
        have e4 := Option.some.inj e3
        simp only [Bool.and_eq_true, decide_eq_true_eq] at d
        obtain ⟨d1, d2, d3⟩ := d
        subst d1 e4
        refine ⟨[.int .i64 n, .int .i64 10], .string (itS n), by rw [q1, q2]; rfl, q3.symm, rfl, fun w hw => ?_⟩
        obtain ⟨t, ht⟩ := Option.isSome_iff_exists.1 hg
        exact hc n d2 d3 w (hw ("internal/strconv.uint64pow10", .u64, Lib.pow10Tab) (by simp [libTabs]) t ht)
    | [], h => exact absurd h (by simp [C2, R2])
    | [_], h => exact absurd h (by simp [C2, R2])
    | _ :: _ :: _ :: _, h => exact absurd h (by simp [C2, R2])
end Go.Eng
