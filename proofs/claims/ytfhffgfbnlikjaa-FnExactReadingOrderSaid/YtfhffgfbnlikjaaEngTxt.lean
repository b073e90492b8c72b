import Derived.Test.YtfhffgfbnlikjaaEngKit
namespace Go.Eng
set_option linter.unusedVariables false
set_option linter.unusedSimpArgs false
open Cod (enc dec)
def bt (b : UInt8) : AV := .sc (.int .u8 (b.toNat : Int))
def bt.dec : AV → Option UInt8
  | .sc (.int .u8 n) => if 0 ≤ n ∧ n < 256 then some n.toNat.toUInt8 else none
  | _ => none
theorem bt.de (b : UInt8) : bt.dec (bt b) = some b := by
  have h : b.toNat < 256 := b.toNat_lt
  unfold bt bt.dec
  simp only
  rw [if_pos (by omega)]
  simp
theorem bt.ed (x : AV) (b : UInt8) (h : bt.dec x = some b) : x = bt b := by
  unfold bt.dec at h
  split at h
  · split at h
    · cases h
      rename_i n hn
      unfold bt
      congr 2
      have h2 : n.toNat < 256 := by omega
      have h3 : (n.toNat.toUInt8).toNat = n.toNat := by
        simp [Nat.toUInt8, UInt8.toNat_ofNat]
        omega
      rw [h3]
      omega
    · cases h
  · cases h
instance : CodR UInt8 where
  enc := bt
  dec := bt.dec
  de := bt.de
  ed := bt.ed
  plain _ := rfl
instance : Row UInt8 where
  w := 1
  cells b := [bt b]
  uncells | [x] => bt.dec x | _ => none
  un := bt.de
  nu x a h := by
    split at h
    · rw [bt.ed _ _ h]
    · cases h
  len _ := rfl
  fine _ := True
instance : Scal UInt8 := ⟨fun _ => rfl⟩
instance : Wt UInt8 := ⟨fun _ => 0, fun _ => true, fun _ _ => rfl⟩
@[simp] theorem w_byte : Row.w UInt8 = 1 := rfl
@[simp] theorem enc_byte (b : UInt8) : enc b = bt b := rfl
@[simp] theorem cells_byte (b : UInt8) : Row.cells b = [bt b] := rfl
@[simp] theorem snapD_byte (h : kA4) (b : UInt8) : snapD h (bt b) = some b := by
  have : snap h depth (bt b) = some (bt b) := rfl
  show kA0 (snap h depth (bt b)) bt.dec = some b
  rw [this, kA2]
  exact bt.de b
@[simp] theorem cells_bt (b : UInt8) : (bt b).cells = [bt b] := rfl
@[simp] theorem flat_bt (b : UInt8) : (bt b).flat = true := rfl
@[simp] theorem bt_geq (b : UInt8) (n : Int) : kAq .geq (bt b) (.sc (.int .u8 n)) = some (bv (decide (n ≤ (b.toNat : Int)))) := (rfl)
@[simp] theorem bt_leq (b : UInt8) (n : Int) : kAq .leq (bt b) (.sc (.int .u8 n)) = some (bv (decide ((b.toNat : Int) ≤ n))) := (rfl)
@[simp] theorem bt_eq (b : UInt8) (n : Int) : kFo .eql .plain (bt b) (.sc (.int .u8 n)) = some (bv (decide ((b.toNat : Int) = n))) := (rfl)
@[simp] theorem bt_ne (b : UInt8) (n : Int) : kFo .neq .plain (bt b) (.sc (.int .u8 n)) = some (bv !decide ((b.toNat : Int) = n)) := (rfl)
@[simp] theorem bt_eqb (b c : UInt8) : kFo .eql .plain (bt b) (bt c) = some (bv (decide (b = c))) := by
  have : kFo .eql .plain (bt b) (bt c) = some (bv (decide ((b.toNat : Int) = (c.toNat : Int)))) := rfl
  rw [this]
  congr 3
  rw [eq_iff_iff]
  constructor
  · intro h
    exact UInt8.toNat_inj.1 (by omega)
  · intro h; rw [h]
@[simp] theorem hand_bt (b : UInt8) (ok : Bool) (h : kA4) : kEe (bt b) ok h = some (bt b, h) := kAk rfl ok h
def bl (s : ByteArray) : List UInt8 := s.data.toList
@[simp] theorem bl_len (s : ByteArray) : (bl s).length = s.size := by simp [bl]
def ltS (a b : ByteArray) : Bool := Op.bytesLess a.toList b.toList
@[simp] theorem aBin_lssS (a b : ByteArray) : kAq .lss (sv a) (sv b) = some (bv (ltS a b)) := (rfl)
theorem beq_toList (a b : ByteArray) : (a.toList == b.toList) = decide (a = b) := by
  by_cases h : a = b
  · simp [h]
  · have h2 : ¬ a.toList = b.toList := fun e => h (toList_inj.1 e)
    simp [h, h2]
@[simp] theorem aBin_gtrS (a b : ByteArray) : kAq .gtr (sv a) (sv b) = some (bv !(ltS a b || decide (a = b))) := by
  have : kAq .gtr (sv a) (sv b) = some (bv !(Op.bytesLess a.toList b.toList || a.toList == b.toList)) := rfl
  rw [this, beq_toList]
  rfl
@[simp] theorem load_head (g : Bool) (s j k : Nat) (row : List AV) (t : kA4) : kAc g s (.ptr 0 1 0 j) (⟨k, [row]⟩ :: t) = cut g s (row.drop j) := by
  simp [kAc]
@[simp] theorem plainC_nil : kG4 kBd = true := rfl
theorem kGg {P : Program} {l : List (Nat × Contract)} {g : Nat} {F : List AV → kA4 → Option (AV × kA4)} (h : GenOK P g F) (hl : kBr P (kCa l)) : kBr P (kCa ((g, .gen F) :: l)) := by
  intro x
  unfold kCa
  cases e : x == g with
  | true =>
    have := eq_of_beq e
    subst this
    exact h
  | false => exact hl x
end Go.Eng
