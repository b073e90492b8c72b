/-
  The law FnRelations holds, for all arguments: it returns true, and its arguments read behind the call as before. No condition.
-/
import Derived.Test.YtdfdmelcnjggfabFnRelationsGen
import Derived.Test.YtdfdmelcnjggfabRows
namespace Go.Proofs.Ytdfdmelcnjggfab
open Go Go.Eng Go.Eng.Cod
set_option maxRecDepth 100000

theorem nil_ok : EnvOK Try.prog (envL []) := E0

def within (a b c : Int) : Bool := decide (b ≤ a) && decide (a ≤ c)

theorem ok_impl_within : PureOK Try.prog n_impl_within (T3 within) := pureT3 nil_ok mixed hb_impl_within fun a b c => by
  simp [e_impl_within, within]

theorem ok_spec_l00In : PureOK Try.prog n_spec_l00In (T3 within) := pureT3 nil_ok mixed hb_spec_l00In fun a b c => by
  simp [e_spec_l00In, within]

theorem ok_spec_l00Min : PureOK Try.prog n_spec_l00Min (T2 fun a b : Int => min a b) := pureT2 nil_ok mixed hb_spec_l00Min fun a b => by
  simp [e_spec_l00Min, minI]

theorem ok_spec_l00Max : PureOK Try.prog n_spec_l00Max (T2 fun a b : Int => max a b) := pureT2 nil_ok mixed hb_spec_l00Max fun a b => by
  simp [e_spec_l00Max, maxI]

def validBox (b : Box) : Bool := within b.x1 0 b.x2 && within b.y1 0 b.y2 && decide (b.x2 ≤ 4095) && decide (b.y2 ≤ 4095)

theorem ok_impl_ValidBox : PureOK Try.prog n_impl_ValidBox (T1 validBox) :=
  pureT1 (E1 ok_impl_within) mixed hb_impl_ValidBox fun b => by
  simp [e_impl_ValidBox, envL, aBox, aLoad, cut, validBox]

theorem ok_spec_l02Box : PureOK Try.prog n_spec_l02Box (T1 validBox) :=
  pureT1 (E1 ok_spec_l00In) mixed hb_spec_l02Box fun b => by
  simp [e_spec_l02Box, envL, aBox, aLoad, cut, validBox]

def middleOf (b : Box) : Spot × Int := bif validBox b then (⟨wr (b.x1 + b.x2), wr (b.y1 + b.y2)⟩, 0) else (⟨0, 0⟩, 1)

theorem ok_impl_MiddleOf : PureOK Try.prog n_impl_MiddleOf (T1 middleOf) :=
  pureT1 (E1 ok_impl_ValidBox) mixed hb_impl_MiddleOf fun b => by
  simp [e_impl_MiddleOf, envL, aBox, aLoad, cut, aStore, splice, aBuild, aFill, retL, resL, pack, middleOf]
  cases validBox b <;> rfl

theorem ok_spec_MiddleOf : PureOK Try.prog n_spec_MiddleOf (T1 middleOf) :=
  pureT1 (E1 ok_spec_l02Box) mixed hb_spec_MiddleOf fun b => by
  simp [e_spec_MiddleOf, envL, aBox, aLoad, cut, aStore, splice, aBuild, aFill, retL, resL, pack, middleOf]
  cases validBox b <;> rfl

def flipBox (b : Box) : Box × Int := bif validBox b then (⟨b.x1, wr (4095 - b.y2), b.x2, wr (4095 - b.y1)⟩, 0) else (⟨0, 0, 0, 0⟩, 1)

theorem ok_impl_FlipBox : PureOK Try.prog n_impl_FlipBox (T1 flipBox) :=
  pureT1 (E1 ok_impl_ValidBox) mixed hb_impl_FlipBox fun b => by
  simp [e_impl_FlipBox, envL, aBox, aLoad, cut, aStore, splice, aBuild, aFill, retL, resL, pack, flipBox]
  cases validBox b <;> rfl

theorem ok_spec_FlipBox : PureOK Try.prog n_spec_FlipBox (T1 flipBox) :=
  pureT1 (E1 ok_spec_l02Box) mixed hb_spec_FlipBox fun b => by
  simp [e_spec_FlipBox, envL, aBox, aLoad, cut, aStore, splice, aBuild, aFill, retL, resL, pack, flipBox]
  cases validBox b <;> rfl

def commonArea (a b : Box) : Int × Int := bif validBox a && validBox b then (wr (max (wr (min a.x2 b.x2 - max a.x1 b.x1)) 0 * max (wr (min a.y2 b.y2 - max a.y1 b.y1)) 0), 0) else (0, 1)

theorem ok_impl_CommonArea : PureOK Try.prog n_impl_CommonArea (T2 commonArea) :=
  pureT2 (E1 ok_impl_ValidBox) mixed hb_impl_CommonArea fun a b => by
  simp [e_impl_CommonArea, envL, aBox, aLoad, cut, commonArea]
  cases validBox a <;> cases validBox b <;> simp

theorem ok_spec_CommonArea : PureOK Try.prog n_spec_CommonArea (T2 commonArea) :=
  pureT2 (E3 ok_spec_l02Box ok_spec_l00Min ok_spec_l00Max) mixed hb_spec_CommonArea fun a b => by
  simp [e_spec_CommonArea, envL, aBox, aLoad, cut, commonArea, Int.max_comm 0]
  cases validBox a <;> cases validBox b <;> simp

def relation (a b : Box) : Int :=
  bif !decide (a = b) && (decide (a.x1 ≤ b.x1) && (decide (a.y1 ≤ b.y1) && (decide (b.x2 ≤ a.x2) && decide (b.y2 ≤ a.y2)))) then 6
  else bif decide (wr (a.x1 + a.x2) ≤ wr (2 * b.x1)) then
    bif decide (wr (2 * b.y2) ≤ wr (a.y1 + a.y2)) then 4 else bif decide (wr (a.y1 + a.y2) ≤ wr (2 * b.y1)) then 5 else 1
  else bif decide (b.y2 ≤ a.y1) then 2 else bif decide (a.y2 ≤ b.y1) then 3 else 0

theorem ok_impl_relation : PureOK Try.prog n_impl_relation (T2 relation) := pureT2 nil_ok mixed hb_impl_relation fun a b => by
  have hc := aCmp_box a b
  simp [e_impl_relation, aBox, aLoad, cut, hc.1, hc.2, relation]
  generalize decide (a = b) = c0
  generalize decide (a.x1 ≤ b.x1) = c1
  generalize decide (a.y1 ≤ b.y1) = c2
  generalize decide (b.x2 ≤ a.x2) = c3
  generalize decide (b.y2 ≤ a.y2) = c4
  generalize decide (wr (a.x1 + a.x2) ≤ wr (2 * b.x1)) = c5
  generalize decide (wr (2 * b.y2) ≤ wr (a.y1 + a.y2)) = c6
  generalize decide (wr (a.y1 + a.y2) ≤ wr (2 * b.y1)) = c7
  generalize decide (b.y2 ≤ a.y1) = c8
  generalize decide (a.y2 ≤ b.y1) = c9
  cases c5 <;> cases c1 <;> cases c2 <;> cases c3 <;> cases c4 <;> cases c0 <;> simp

theorem ok_spec_l20Relation : PureOK Try.prog n_spec_l20Relation (T2 relation) := pureT2 nil_ok mixed hb_spec_l20Relation fun a b => by
  have hc := aCmp_box a b
  simp [e_spec_l20Relation, aBox, aLoad, cut, hc.1, hc.2, relation]
  generalize decide (a = b) = c0
  generalize decide (a.x1 ≤ b.x1) = c1
  generalize decide (a.y1 ≤ b.y1) = c2
  generalize decide (b.x2 ≤ a.x2) = c3
  generalize decide (b.y2 ≤ a.y2) = c4
  generalize decide (wr (a.x1 + a.x2) ≤ wr (2 * b.x1)) = c5
  generalize decide (wr (2 * b.y2) ≤ wr (a.y1 + a.y2)) = c6
  generalize decide (wr (a.y1 + a.y2) ≤ wr (2 * b.y1)) = c7
  generalize decide (b.y2 ≤ a.y1) = c8
  generalize decide (a.y2 ≤ b.y1) = c9
  cases c5 <;> cases c1 <;> cases c2 <;> cases c3 <;> cases c4 <;> cases c0 <;> simp

def relationOf (a b : Box) : Int × Int := bif validBox a && validBox b then (relation a b, 0) else (0, 1)

theorem ok_impl_RelationOf : PureOK Try.prog n_impl_RelationOf (T2 relationOf) := pureT2 (E2 ok_impl_ValidBox ok_impl_relation) mixed hb_impl_RelationOf fun a b => by
  simp [e_impl_RelationOf, envL, aBox, aLoad, cut, relationOf]
  cases validBox a <;> cases validBox b <;> simp

theorem ok_spec_RelationOf : PureOK Try.prog n_spec_RelationOf (T2 relationOf) := pureT2 (E2 ok_spec_l02Box ok_spec_l20Relation) mixed hb_spec_RelationOf fun a b => by
  simp [e_spec_RelationOf, envL, aBox, aLoad, cut, relationOf]
  cases validBox a <;> cases validBox b <;> simp

/-- The relation without the machine's words. -/
def relZ (a b : Box) : Int :=
  if a ≠ b ∧ a.x1 ≤ b.x1 ∧ a.y1 ≤ b.y1 ∧ b.x2 ≤ a.x2 ∧ b.y2 ≤ a.y2 then 6
  else if a.x1 + a.x2 ≤ 2 * b.x1 then
    if 2 * b.y2 ≤ a.y1 + a.y2 then 4 else if a.y1 + a.y2 ≤ 2 * b.y1 then 5 else 1
  else if b.y2 ≤ a.y1 then 2 else if a.y2 ≤ b.y1 then 3 else 0
theorem box_range {b : Box} (h : validBox b = true) : 0 ≤ b.x1 ∧ b.x1 ≤ b.x2 ∧ b.x2 ≤ 4095 ∧ 0 ≤ b.y1 ∧ b.y1 ≤ b.y2 ∧ b.y2 ≤ 4095 := by
  simp [validBox, within] at h
  omega
theorem relation_relZ {a b : Box} (ha : validBox a = true) (hb : validBox b = true) : relation a b = relZ a b := by
  have r1 := box_range ha
  have r2 := box_range hb
  have w1 : wr (a.x1 + a.x2) = a.x1 + a.x2 := wr_id (by omega) (by omega)
  have w2 : wr (2 * b.x1) = 2 * b.x1 := wr_id (by omega) (by omega)
  have w3 : wr (2 * b.y2) = 2 * b.y2 := wr_id (by omega) (by omega)
  have w4 : wr (a.y1 + a.y2) = a.y1 + a.y2 := wr_id (by omega) (by omega)
  have w5 : wr (2 * b.y1) = 2 * b.y1 := wr_id (by omega) (by omega)
  unfold relation relZ
  rw [w1, w2, w3, w4, w5]
  simp only [Bool.cond_eq_ite, Bool.and_eq_true, Bool.not_eq_true', decide_eq_true_eq, decide_eq_false_iff_not, ne_eq]
def flipB (b : Box) : Box := ⟨b.x1, 4095 - b.y2, b.x2, 4095 - b.y1⟩
theorem flipBox_flipB {b : Box} (h : validBox b = true) : flipBox b = (flipB b, 0) := by
  have r := box_range h
  have w1 : wr (4095 - b.y2) = 4095 - b.y2 := wr_id (by omega) (by omega)
  have w2 : wr (4095 - b.y1) = 4095 - b.y1 := wr_id (by omega) (by omega)
  simp [flipBox, h, flipB, w1, w2]
theorem valid_flipB {b : Box} (h : validBox b = true) : validBox (flipB b) = true := by
  have r := box_range h
  have c1 : (0 ≤ b.x1) = True := eq_true (by omega)
  have c2 : (b.x1 ≤ b.x2) = True := eq_true (by omega)
  have c3 : ((0 : Int) ≤ 4095 - b.y2) = True := eq_true (by omega)
  have c4 : (4095 - b.y2 ≤ 4095 - b.y1) = True := eq_true (by omega)
  have c5 : (b.x2 ≤ 4095) = True := eq_true (by omega)
  have c6 : (4095 - b.y1 ≤ 4095) = True := eq_true (by omega)
  simp only [validBox, within, flipB, c1, c2, c3, c4, c5, c6, decide_true, Bool.and_self]
theorem flipB_inj {a b : Box} : flipB a = flipB b ↔ a = b := by
  obtain ⟨a1, a2, a3, a4⟩ := a
  obtain ⟨b1, b2, b3, b4⟩ := b
  simp only [flipB, Box.mk.injEq]
  omega
def swapR (r : Int) : Int := if r = 2 then 3 else if r = 3 then 2 else if r = 4 then 5 else if r = 5 then 4 else r
theorem relZ_flip {a b : Box} (ha : validBox a = true) (hb : validBox b = true) (hd : ¬ ((b.y1 = b.y2 ∧ 2 * b.y1 = a.y1 + a.y2) ∨ (a.y1 = a.y2 ∧ b.y1 = b.y2))) : relZ (flipB a) (flipB b) = swapR (relZ a b) := by
  have r1 := box_range ha
  have r2 := box_range hb
  have ci : (flipB a ≠ flipB b ∧ (flipB a).x1 ≤ (flipB b).x1 ∧ (flipB a).y1 ≤ (flipB b).y1 ∧ (flipB b).x2 ≤ (flipB a).x2 ∧ (flipB b).y2 ≤ (flipB a).y2) = (a ≠ b ∧ a.x1 ≤ b.x1 ∧ a.y1 ≤ b.y1 ∧ b.x2 ≤ a.x2 ∧ b.y2 ≤ a.y2) :=
    propext (and_congr (not_congr flipB_inj) ⟨by simp only [flipB]; omega, by simp only [flipB]; omega⟩)
  have cg : ((flipB a).x1 + (flipB a).x2 ≤ 2 * (flipB b).x1) = (a.x1 + a.x2 ≤ 2 * b.x1) := rfl
  have cu : (2 * (flipB b).y2 ≤ (flipB a).y1 + (flipB a).y2) = (a.y1 + a.y2 ≤ 2 * b.y1) := propext ⟨by simp only [flipB]; omega, by simp only [flipB]; omega⟩
  have cv : ((flipB a).y1 + (flipB a).y2 ≤ 2 * (flipB b).y1) = (2 * b.y2 ≤ a.y1 + a.y2) := propext ⟨by simp only [flipB]; omega, by simp only [flipB]; omega⟩
  have cp : ((flipB b).y2 ≤ (flipB a).y1) = (a.y2 ≤ b.y1) := propext ⟨by simp only [flipB]; omega, by simp only [flipB]; omega⟩
  have cq : ((flipB a).y2 ≤ (flipB b).y1) = (b.y2 ≤ a.y1) := propext ⟨by simp only [flipB]; omega, by simp only [flipB]; omega⟩
  have n1 : ¬ (2 * b.y2 ≤ a.y1 + a.y2 ∧ a.y1 + a.y2 ≤ 2 * b.y1) := by omega
  have n2 : ¬ (b.y2 ≤ a.y1 ∧ a.y2 ≤ b.y1) := by omega
  unfold relZ
  simp only [ci, cg, cu, cv, cp, cq]
  by_cases i : (a ≠ b ∧ a.x1 ≤ b.x1 ∧ a.y1 ≤ b.y1 ∧ b.x2 ≤ a.x2 ∧ b.y2 ≤ a.y2)
  · rw [if_pos i, if_pos i]
    rfl
  · rw [if_neg i, if_neg i]
    by_cases g : a.x1 + a.x2 ≤ 2 * b.x1
    · by_cases u : 2 * b.y2 ≤ a.y1 + a.y2
      · have v : ¬ a.y1 + a.y2 ≤ 2 * b.y1 := fun v => n1 ⟨u, v⟩
        simp [g, u, v, swapR]
      · by_cases v : a.y1 + a.y2 ≤ 2 * b.y1 <;> simp [g, u, v, swapR]
    · by_cases u : b.y2 ≤ a.y1
      · have v : ¬ a.y2 ≤ b.y1 := fun v => n2 ⟨u, v⟩
        simp [g, u, v, swapR]
      · by_cases v : a.y2 ≤ b.y1 <;> simp [g, u, v, swapR]
def moveB (b : Box) (dx dy : Int) : Box := ⟨b.x1 + dx, b.y1 + dy, b.x2 + dx, b.y2 + dy⟩
theorem relZ_move (a b : Box) (dx dy : Int) : relZ (moveB a dx dy) (moveB b dx dy) = relZ a b := by
  have e : (moveB a dx dy ≠ moveB b dx dy) = (a ≠ b) := by
    apply propext
    apply not_congr
    obtain ⟨a1, a2, a3, a4⟩ := a
    obtain ⟨b1, b2, b3, b4⟩ := b
    simp only [moveB, Box.mk.injEq]
    omega
  unfold relZ
  simp only [e]
  simp only [moveB]
  have c1 : (a.x1 + dx ≤ b.x1 + dx) = (a.x1 ≤ b.x1) := propext ⟨by omega, by omega⟩
  have c2 : (a.y1 + dy ≤ b.y1 + dy) = (a.y1 ≤ b.y1) := propext ⟨by omega, by omega⟩
  have c3 : (b.x2 + dx ≤ a.x2 + dx) = (b.x2 ≤ a.x2) := propext ⟨by omega, by omega⟩
  have c4 : (b.y2 + dy ≤ a.y2 + dy) = (b.y2 ≤ a.y2) := propext ⟨by omega, by omega⟩
  have c5 : (a.x1 + dx + (a.x2 + dx) ≤ 2 * (b.x1 + dx)) = (a.x1 + a.x2 ≤ 2 * b.x1) := propext ⟨by omega, by omega⟩
  have c6 : (2 * (b.y2 + dy) ≤ a.y1 + dy + (a.y2 + dy)) = (2 * b.y2 ≤ a.y1 + a.y2) := propext ⟨by omega, by omega⟩
  have c7 : (a.y1 + dy + (a.y2 + dy) ≤ 2 * (b.y1 + dy)) = (a.y1 + a.y2 ≤ 2 * b.y1) := propext ⟨by omega, by omega⟩
  have c8 : (b.y2 + dy ≤ a.y1 + dy) = (b.y2 ≤ a.y1) := propext ⟨by omega, by omega⟩
  have c9 : (a.y2 + dy ≤ b.y1 + dy) = (a.y2 ≤ b.y1) := propext ⟨by omega, by omega⟩
  simp only [c1, c2, c3, c4, c5, c6, c7, c8, c9]
theorem area_comm (a b : Box) : commonArea b a = commonArea a b := by
  unfold commonArea
  rw [Bool.and_comm (validBox b), Int.min_comm b.x2, Int.max_comm b.x1, Int.min_comm b.y2, Int.max_comm b.y1]

/-- The source of draws: how far it has read, its seed. -/
structure SS where
  at_ : Nat
  w : Int
def srow (q : Sl UInt8) (st : SS) : AObj := ⟨3, [[Sl.enc q, iv (st.at_ : Int), .sc (.int .u64 st.w)]]⟩
theorem store_head (s j k : Nat) (v : AV) (row : List AV) (t : Heap) (h1 : v.cells.length = s) (h2 : j + s ≤ row.length) (h3 : v.cells.all AV.flat = true) : aStore s (.ptr 0 1 0 j) v (⟨k, [row]⟩ :: t) = some (⟨k, [splice row j v.cells]⟩ :: t) := by
  simp only [aStore, List.getElem?_cons_zero, List.length_cons, List.length_nil, Nat.zero_add, if_true]
  rw [if_pos ⟨h1, h2, h3⟩]
  rfl
theorem v_mul (a b : Int) : aBin .mul (.sc (.int .u64 a)) (.sc (.int .u64 b)) = some (.sc (.int .u64 (IntKind.u64.wrap (a * b)))) := (rfl)
theorem v_add (a b : Int) : aBin .add (.sc (.int .u64 a)) (.sc (.int .u64 b)) = some (.sc (.int .u64 (IntKind.u64.wrap (a + b)))) := (rfl)
theorem v_shr40 (a : Int) : aBin .shr (.sc (.int .u64 a)) (.sc (.int .u64 40)) = some (.sc (.int .u64 (a.fdiv (2 ^ 40)))) := (rfl)
theorem v_conv (a : Int) : aConvInt .u64 (iv a) = some (.sc (.int .u64 (IntKind.u64.wrap a))) := (rfl)
theorem v_back (a : Int) : aConvInt .i64 (.sc (.int .u64 a)) = some (iv (wr a)) := (rfl)
theorem v_byte (b : UInt8) : aConvInt .i64 (bt b) = some (iv (b.toNat : Nat)) := by
  have h0 : aConvInt .i64 (bt b) = some (iv (wr (b.toNat : Int))) := rfl
  have := b.toNat_lt
  rw [h0, wr_id (by omega) (by omega)]
theorem v_and (a : Int) : ∃ r : Nat, r ≤ 255 ∧ aBin .and (.sc (.int .u64 a)) (.sc (.int .u64 255)) = some (.sc (.int .u64 (r : Int))) := by
  have h0 : aBin .and (.sc (.int .u64 a)) (.sc (.int .u64 255)) = some (.sc (.int .u64 (IntKind.u64.wrap ((BitVec.ofInt 64 a &&& BitVec.ofInt 64 255).toNat : Nat)))) := rfl
  have h1 : (BitVec.ofInt 64 a &&& BitVec.ofInt 64 255).toNat ≤ 255 := by
    rw [BitVec.toNat_and]
    have : (BitVec.ofInt 64 255).toNat = 255 := by decide
    rw [this]
    exact Nat.and_le_right
  refine ⟨(BitVec.ofInt 64 a &&& BitVec.ofInt 64 255).toNat, h1, ?_⟩
  rw [h0]
  generalize (BitVec.ofInt 64 a &&& BitVec.ofInt 64 255).toNat = r at h1
  congr 3
  simp only [IntKind.wrap, IntKind.bits, IntKind.signed]
  simp only [Bool.false_and, Bool.false_eq_true, if_false]
  omega

/-- What 'l00From' hands out. -/
def fromA (q : Sl UInt8) : AV := .np 3 [[Sl.enc q, iv 0, .sc (.int .u64 0)]] 0 0
theorem ok_spec_l00From : PureOK Try.prog n_spec_l00From (R1 fun q : Sl UInt8 => some (fromA q)) := pureR1 E0 mixed hb_spec_l00From fun q r h => by
  cases h
  apply pureG
  rw [e_spec_l00From]
  cases q <;> rfl
theorem hand_from (q : Sl UInt8) (h : Heap) : hand (fromA q) (noRef depth (Sl.enc q)) h = some (.ptr h.length 1 0 0, h ++ [srow q ⟨0, 0⟩]) := by
  cases q <;> rfl

theorem tt_spec_l00From : PureOK Try.prog n_spec_l00From (C1 fromA (fun q : Sl UInt8 => some q)) := pureR1 E0 mixed hb_spec_l00From fun q r h => by
  cases h
  apply pureG
  rw [e_spec_l00From]
  cases q <;> rfl

def t_spec_l00Src_next (s_ : l00Src) : Option (Int × l00Src) :=
  bif decide (s_.pos < (((s_.code.getD []).length : Nat) : Int)) then
    obind (getI (s_.code.getD []) s_.pos) fun a2 =>
    bif decide ((wr (s_.pos + 1)) ≤ (((s_.code.getD []).length : Nat) : Int)) then
      some ((a2.toNat : Int), (⟨s_.code, wr (s_.pos + 1), IntKind.u64.wrap ((IntKind.u64.wrap ((IntKind.u64.wrap (s_.seed * 6364136223846793005)) + (IntKind.u64.wrap (a2.toNat : Int)))) + 1442695040888963407)⟩ : l00Src))
    else
      some (wr (IntKind.u64.wrap ((BitVec.ofInt 64 (Int.fdiv (IntKind.u64.wrap ((IntKind.u64.wrap ((IntKind.u64.wrap (s_.seed * 6364136223846793005)) + (IntKind.u64.wrap (a2.toNat : Int)))) + 1442695040888963407)) (2 ^ 40)) &&& BitVec.ofInt 64 255).toNat : Nat)), (⟨s_.code, wr (s_.pos + 1), IntKind.u64.wrap ((IntKind.u64.wrap ((IntKind.u64.wrap (s_.seed * 6364136223846793005)) + (IntKind.u64.wrap (a2.toNat : Int)))) + 1442695040888963407)⟩ : l00Src))
  else
    bif decide ((wr (s_.pos + 1)) ≤ (((s_.code.getD []).length : Nat) : Int)) then
      some (0, (⟨s_.code, wr (s_.pos + 1), IntKind.u64.wrap ((IntKind.u64.wrap ((IntKind.u64.wrap (s_.seed * 6364136223846793005)) + (IntKind.u64.wrap 0))) + 1442695040888963407)⟩ : l00Src))
    else
      some (wr (IntKind.u64.wrap ((BitVec.ofInt 64 (Int.fdiv (IntKind.u64.wrap ((IntKind.u64.wrap ((IntKind.u64.wrap (s_.seed * 6364136223846793005)) + (IntKind.u64.wrap 0))) + 1442695040888963407)) (2 ^ 40)) &&& BitVec.ofInt 64 255).toNat : Nat)), (⟨s_.code, wr (s_.pos + 1), IntKind.u64.wrap ((IntKind.u64.wrap ((IntKind.u64.wrap (s_.seed * 6364136223846793005)) + (IntKind.u64.wrap 0))) + 1442695040888963407)⟩ : l00Src))

theorem ts_spec_l00Src_next (env : Nat → Contract)  {B : Base} {h : Heap} {o_ : Nat} (s_ : l00Src) (O : Hold B h [(AV.ptr o_ 1 0 0, .pt 3 [Sl.enc s_.code, iv s_.pos, AV.sc (.int .u64 s_.seed)])]) : Sim (denFn Try.prog env n_spec_l00Src_next [AV.ptr o_ 1 0 0] h) (t_spec_l00Src_next s_) (fun c p => p.1 = iv c.1 ∧ Hold B p.2 [(AV.ptr o_ 1 0 0, .pt 3 [Sl.enc c.2.code, iv c.2.pos, AV.sc (.int .u64 c.2.seed)])]) := by
  rw [e_spec_l00Src_next]
  unfold t_spec_l00Src_next
  refine sim_let (v := AV.ptr o_ 1 0 0) rfl ?_
  refine sim_let (v := AV.ptr o_ 1 0 1) rfl ?_
  refine sim_let (v := iv s_.pos) (O.ld 0 rfl false 1 1) ?_
  refine sim_let (v := AV.ptr o_ 1 0 0) rfl ?_
  refine sim_let (v := AV.ptr o_ 1 0 0) rfl ?_
  refine sim_let (v := Sl.enc s_.code) (O.ld 0 rfl false 1 0) ?_
  refine sim_let (v := iv (((s_.code.getD []).length : Nat) : Int)) (Tab.enc h s_.code).len ?_
  refine sim_let (v := bv (decide (s_.pos < (((s_.code.getD []).length : Nat) : Int)))) (aBin_lss _ _) ?_
  refine sim_cond (fun c1 => ?_) (fun c1 => ?_)
  · refine sim_let (v := AV.ptr o_ 1 0 0) rfl ?_
    refine sim_let (v := AV.ptr o_ 1 0 0) rfl ?_
    refine sim_let (v := Sl.enc s_.code) (O.ld 0 rfl false 1 0) ?_
    refine sim_let (v := AV.ptr o_ 1 0 0) rfl ?_
    refine sim_let (v := AV.ptr o_ 1 0 1) rfl ?_
    refine sim_let (v := iv s_.pos) (O.ld 0 rfl false 1 1) ?_
    refine sim_get (Tab.enc h s_.code) (fun m3 a2 hi4 hm5 => ?_)
    refine sim_let (v := bt a2) ((Tab.enc h s_.code).ld hm5 false 1 0) ?_
    refine sim_let (v := iv (a2.toNat : Int)) (conv_byte _) ?_
    refine sim_let (v := AV.ptr o_ 1 0 0) rfl ?_
    refine sim_let (v := AV.ptr o_ 1 0 1) rfl ?_
    refine sim_let (v := iv s_.pos) (O.ld 0 rfl false 1 1) ?_
    refine sim_let (v := iv (wr (s_.pos + 1))) (aBin_add _ _) ?_
    refine sim_let (v := AV.ptr o_ 1 0 0) rfl ?_
    refine sim_let (v := AV.ptr o_ 1 0 1) rfl ?_
    refine sim_store O 0 (cs' := [Sl.enc s_.code, iv (wr (s_.pos + 1)), AV.sc (.int .u64 s_.seed)]) rfl (by first | rfl | simp) (by simp) (by first | rfl | simp) (by first | rfl | simp [splice]) (fun h6 O7 => ?_)
    replace O7 : Hold B h6 [(AV.ptr o_ 1 0 0, .pt 3 [Sl.enc s_.code, iv (wr (s_.pos + 1)), AV.sc (.int .u64 s_.seed)])] := O7
    refine sim_let (v := AV.ptr o_ 1 0 0) rfl ?_
    refine sim_let (v := AV.ptr o_ 1 0 2) rfl ?_
    refine sim_let (v := AV.sc (.int .u64 s_.seed)) (O7.ld 0 rfl false 1 2) ?_
    refine sim_let (v := AV.sc (.int .u64 (IntKind.u64.wrap (s_.seed * 6364136223846793005)))) rfl ?_
    refine sim_let (v := AV.sc (.int .u64 (IntKind.u64.wrap (a2.toNat : Int)))) rfl ?_
    refine sim_let (v := AV.sc (.int .u64 (IntKind.u64.wrap ((IntKind.u64.wrap (s_.seed * 6364136223846793005)) + (IntKind.u64.wrap (a2.toNat : Int)))))) rfl ?_
    refine sim_let (v := AV.sc (.int .u64 (IntKind.u64.wrap ((IntKind.u64.wrap ((IntKind.u64.wrap (s_.seed * 6364136223846793005)) + (IntKind.u64.wrap (a2.toNat : Int)))) + 1442695040888963407)))) rfl ?_
    refine sim_let (v := AV.ptr o_ 1 0 0) rfl ?_
    refine sim_let (v := AV.ptr o_ 1 0 2) rfl ?_
    refine sim_store O7 0 (cs' := [Sl.enc s_.code, iv (wr (s_.pos + 1)), AV.sc (.int .u64 (IntKind.u64.wrap ((IntKind.u64.wrap ((IntKind.u64.wrap (s_.seed * 6364136223846793005)) + (IntKind.u64.wrap (a2.toNat : Int)))) + 1442695040888963407)))]) rfl (by first | rfl | simp) (by simp) (by first | rfl | simp) (by first | rfl | simp [splice]) (fun h8 O9 => ?_)
    replace O9 : Hold B h8 [(AV.ptr o_ 1 0 0, .pt 3 [Sl.enc s_.code, iv (wr (s_.pos + 1)), AV.sc (.int .u64 (IntKind.u64.wrap ((IntKind.u64.wrap ((IntKind.u64.wrap (s_.seed * 6364136223846793005)) + (IntKind.u64.wrap (a2.toNat : Int)))) + 1442695040888963407)))])] := O9
    refine sim_let (v := AV.ptr o_ 1 0 0) rfl ?_
    refine sim_let (v := AV.ptr o_ 1 0 1) rfl ?_
    refine sim_let (v := iv (wr (s_.pos + 1))) (O9.ld 0 rfl false 1 1) ?_
    refine sim_let (v := AV.ptr o_ 1 0 0) rfl ?_
    refine sim_let (v := AV.ptr o_ 1 0 0) rfl ?_
    refine sim_let (v := Sl.enc s_.code) (O9.ld 0 rfl false 1 0) ?_
    refine sim_let (v := iv (((s_.code.getD []).length : Nat) : Int)) (Tab.enc h8 s_.code).len ?_
    refine sim_let (v := bv (decide ((wr (s_.pos + 1)) ≤ (((s_.code.getD []).length : Nat) : Int)))) (aBin_leq _ _) ?_
    refine sim_cond (fun c10 => ?_) (fun c10 => ?_)
    · exact sim_ret ⟨rfl, O9⟩
    · refine sim_let (v := AV.ptr o_ 1 0 0) rfl ?_
      refine sim_let (v := AV.ptr o_ 1 0 2) rfl ?_
      refine sim_let (v := AV.sc (.int .u64 (IntKind.u64.wrap ((IntKind.u64.wrap ((IntKind.u64.wrap (s_.seed * 6364136223846793005)) + (IntKind.u64.wrap (a2.toNat : Int)))) + 1442695040888963407)))) (O9.ld 0 rfl false 1 2) ?_
      refine sim_let (v := AV.sc (.int .u64 (Int.fdiv (IntKind.u64.wrap ((IntKind.u64.wrap ((IntKind.u64.wrap (s_.seed * 6364136223846793005)) + (IntKind.u64.wrap (a2.toNat : Int)))) + 1442695040888963407)) (2 ^ 40)))) rfl ?_
      refine sim_let (v := AV.sc (.int .u64 (IntKind.u64.wrap ((BitVec.ofInt 64 (Int.fdiv (IntKind.u64.wrap ((IntKind.u64.wrap ((IntKind.u64.wrap (s_.seed * 6364136223846793005)) + (IntKind.u64.wrap (a2.toNat : Int)))) + 1442695040888963407)) (2 ^ 40)) &&& BitVec.ofInt 64 255).toNat : Nat)))) rfl ?_
      refine sim_let (v := iv (wr (IntKind.u64.wrap ((BitVec.ofInt 64 (Int.fdiv (IntKind.u64.wrap ((IntKind.u64.wrap ((IntKind.u64.wrap (s_.seed * 6364136223846793005)) + (IntKind.u64.wrap (a2.toNat : Int)))) + 1442695040888963407)) (2 ^ 40)) &&& BitVec.ofInt 64 255).toNat : Nat)))) rfl ?_
      exact sim_ret ⟨rfl, O9⟩
  · refine sim_let (v := AV.ptr o_ 1 0 0) rfl ?_
    refine sim_let (v := AV.ptr o_ 1 0 1) rfl ?_
    refine sim_let (v := iv s_.pos) (O.ld 0 rfl false 1 1) ?_
    refine sim_let (v := iv (wr (s_.pos + 1))) (aBin_add _ _) ?_
    refine sim_let (v := AV.ptr o_ 1 0 0) rfl ?_
    refine sim_let (v := AV.ptr o_ 1 0 1) rfl ?_
    refine sim_store O 0 (cs' := [Sl.enc s_.code, iv (wr (s_.pos + 1)), AV.sc (.int .u64 s_.seed)]) rfl (by first | rfl | simp) (by simp) (by first | rfl | simp) (by first | rfl | simp [splice]) (fun h13 O14 => ?_)
    replace O14 : Hold B h13 [(AV.ptr o_ 1 0 0, .pt 3 [Sl.enc s_.code, iv (wr (s_.pos + 1)), AV.sc (.int .u64 s_.seed)])] := O14
    refine sim_let (v := AV.ptr o_ 1 0 0) rfl ?_
    refine sim_let (v := AV.ptr o_ 1 0 2) rfl ?_
    refine sim_let (v := AV.sc (.int .u64 s_.seed)) (O14.ld 0 rfl false 1 2) ?_
    refine sim_let (v := AV.sc (.int .u64 (IntKind.u64.wrap (s_.seed * 6364136223846793005)))) rfl ?_
    refine sim_let (v := AV.sc (.int .u64 (IntKind.u64.wrap 0))) rfl ?_
    refine sim_let (v := AV.sc (.int .u64 (IntKind.u64.wrap ((IntKind.u64.wrap (s_.seed * 6364136223846793005)) + (IntKind.u64.wrap 0))))) rfl ?_
    refine sim_let (v := AV.sc (.int .u64 (IntKind.u64.wrap ((IntKind.u64.wrap ((IntKind.u64.wrap (s_.seed * 6364136223846793005)) + (IntKind.u64.wrap 0))) + 1442695040888963407)))) rfl ?_
    refine sim_let (v := AV.ptr o_ 1 0 0) rfl ?_
    refine sim_let (v := AV.ptr o_ 1 0 2) rfl ?_
    refine sim_store O14 0 (cs' := [Sl.enc s_.code, iv (wr (s_.pos + 1)), AV.sc (.int .u64 (IntKind.u64.wrap ((IntKind.u64.wrap ((IntKind.u64.wrap (s_.seed * 6364136223846793005)) + (IntKind.u64.wrap 0))) + 1442695040888963407)))]) rfl (by first | rfl | simp) (by simp) (by first | rfl | simp) (by first | rfl | simp [splice]) (fun h15 O16 => ?_)
    replace O16 : Hold B h15 [(AV.ptr o_ 1 0 0, .pt 3 [Sl.enc s_.code, iv (wr (s_.pos + 1)), AV.sc (.int .u64 (IntKind.u64.wrap ((IntKind.u64.wrap ((IntKind.u64.wrap (s_.seed * 6364136223846793005)) + (IntKind.u64.wrap 0))) + 1442695040888963407)))])] := O16
    refine sim_let (v := AV.ptr o_ 1 0 0) rfl ?_
    refine sim_let (v := AV.ptr o_ 1 0 1) rfl ?_
    refine sim_let (v := iv (wr (s_.pos + 1))) (O16.ld 0 rfl false 1 1) ?_
    refine sim_let (v := AV.ptr o_ 1 0 0) rfl ?_
    refine sim_let (v := AV.ptr o_ 1 0 0) rfl ?_
    refine sim_let (v := Sl.enc s_.code) (O16.ld 0 rfl false 1 0) ?_
    refine sim_let (v := iv (((s_.code.getD []).length : Nat) : Int)) (Tab.enc h15 s_.code).len ?_
    refine sim_let (v := bv (decide ((wr (s_.pos + 1)) ≤ (((s_.code.getD []).length : Nat) : Int)))) (aBin_leq _ _) ?_
    refine sim_cond (fun c17 => ?_) (fun c17 => ?_)
    · exact sim_ret ⟨rfl, O16⟩
    · refine sim_let (v := AV.ptr o_ 1 0 0) rfl ?_
      refine sim_let (v := AV.ptr o_ 1 0 2) rfl ?_
      refine sim_let (v := AV.sc (.int .u64 (IntKind.u64.wrap ((IntKind.u64.wrap ((IntKind.u64.wrap (s_.seed * 6364136223846793005)) + (IntKind.u64.wrap 0))) + 1442695040888963407)))) (O16.ld 0 rfl false 1 2) ?_
      refine sim_let (v := AV.sc (.int .u64 (Int.fdiv (IntKind.u64.wrap ((IntKind.u64.wrap ((IntKind.u64.wrap (s_.seed * 6364136223846793005)) + (IntKind.u64.wrap 0))) + 1442695040888963407)) (2 ^ 40)))) rfl ?_
      refine sim_let (v := AV.sc (.int .u64 (IntKind.u64.wrap ((BitVec.ofInt 64 (Int.fdiv (IntKind.u64.wrap ((IntKind.u64.wrap ((IntKind.u64.wrap (s_.seed * 6364136223846793005)) + (IntKind.u64.wrap 0))) + 1442695040888963407)) (2 ^ 40)) &&& BitVec.ofInt 64 255).toNat : Nat)))) rfl ?_
      refine sim_let (v := iv (wr (IntKind.u64.wrap ((BitVec.ofInt 64 (Int.fdiv (IntKind.u64.wrap ((IntKind.u64.wrap ((IntKind.u64.wrap (s_.seed * 6364136223846793005)) + (IntKind.u64.wrap 0))) + 1442695040888963407)) (2 ^ 40)) &&& BitVec.ofInt 64 255).toNat : Nat)))) rfl ?_
      exact sim_ret ⟨rfl, O16⟩
noncomputable def ev_spec_l00Src_next : Nat → Contract := envL []
theorem eo_spec_l00Src_next : EnvOK Try.prog ev_spec_l00Src_next := E0
theorem tg_spec_l00Src_next {B : Base} {h : Heap} {o_ : Nat} (s_ : l00Src) (O : Hold B h [(AV.ptr o_ 1 0 0, .pt 3 [Sl.enc s_.code, iv s_.pos, AV.sc (.int .u64 s_.seed)])]) : Sim (denFn Try.prog ev_spec_l00Src_next n_spec_l00Src_next [AV.ptr o_ 1 0 0] h) (t_spec_l00Src_next s_) (fun c p => p.1 = iv c.1 ∧ Hold B p.2 [(AV.ptr o_ 1 0 0, .pt 3 [Sl.enc c.2.code, iv c.2.pos, AV.sc (.int .u64 c.2.seed)])]) := ts_spec_l00Src_next ev_spec_l00Src_next  s_  O

def t_spec_l00Src_pick (s_ : l00Src) (n_ : Int) : Option (Int × l00Src) :=
  bif decide (n_ ≤ 1) then
    some (0, (⟨s_.code, s_.pos, s_.seed⟩ : l00Src))
  else
    obind (t_spec_l00Src_next s_) fun c3 =>
    bif decide (200 < n_) then
      obind (t_spec_l00Src_next c3.2) fun c10 =>
      obind (remI (wr ((wr (c3.1 * 256)) + c10.1)) n_) fun q16 =>
      some (q16, (⟨c10.2.code, c10.2.pos, c10.2.seed⟩ : l00Src))
    else
      obind (remI c3.1 n_) fun q18 =>
      some (q18, (⟨c3.2.code, c3.2.pos, c3.2.seed⟩ : l00Src))

theorem ts_spec_l00Src_pick (env : Nat → Contract) (he_spec_l00Src_next : env n_spec_l00Src_next = .gen (denFn Try.prog ev_spec_l00Src_next n_spec_l00Src_next)) {B : Base} {h : Heap} {o_ : Nat} (s_ : l00Src) (n_ : Int) (O : Hold B h [(AV.ptr o_ 1 0 0, .pt 3 [Sl.enc s_.code, iv s_.pos, AV.sc (.int .u64 s_.seed)])]) : Sim (denFn Try.prog env n_spec_l00Src_pick [AV.ptr o_ 1 0 0, iv n_] h) (t_spec_l00Src_pick s_ n_) (fun c p => p.1 = iv c.1 ∧ Hold B p.2 [(AV.ptr o_ 1 0 0, .pt 3 [Sl.enc c.2.code, iv c.2.pos, AV.sc (.int .u64 c.2.seed)])]) := by
  rw [e_spec_l00Src_pick]
  unfold t_spec_l00Src_pick
  refine sim_let (v := bv (decide (n_ ≤ 1))) (aBin_leq _ _) ?_
  refine sim_cond (fun c1 => ?_) (fun c1 => ?_)
  · exact sim_ret ⟨rfl, O⟩
  · refine sim_gen he_spec_l00Src_next (tg_spec_l00Src_next s_ (O.start (i := 0) rfl rfl)) (fun c3 v4 h5 hq6 => ?_)
    obtain ⟨e_v4, O7⟩ := hq6
    dsimp only at e_v4
    subst v4
    have O8 : Hold B h5 [(AV.ptr o_ 1 0 0, .pt 3 [Sl.enc c3.2.code, iv c3.2.pos, AV.sc (.int .u64 c3.2.seed)])] := O.merge (i := 0) rfl rfl O7
    refine sim_let (v := bv (decide (200 < n_))) (aBin_gtr _ _) ?_
    refine sim_cond (fun c9 => ?_) (fun c9 => ?_)
    · refine sim_let (v := iv (wr (c3.1 * 256))) (aBin_mul _ _) ?_
      refine sim_gen he_spec_l00Src_next (tg_spec_l00Src_next c3.2 (O8.start (i := 0) rfl rfl)) (fun c10 v11 h12 hq13 => ?_)
      obtain ⟨e_v11, O14⟩ := hq13
      dsimp only at e_v11
      subst v11
      have O15 : Hold B h12 [(AV.ptr o_ 1 0 0, .pt 3 [Sl.enc c10.2.code, iv c10.2.pos, AV.sc (.int .u64 c10.2.seed)])] := O8.merge (i := 0) rfl rfl O14
      refine sim_let (v := iv (wr ((wr (c3.1 * 256)) + c10.1))) (aBin_add _ _) ?_
      refine sim_rem (fun q16 => ?_)
      exact sim_ret ⟨rfl, O15⟩
    · refine sim_rem (fun q18 => ?_)
      exact sim_ret ⟨rfl, O8⟩
noncomputable def ev_spec_l00Src_pick : Nat → Contract := envL [(n_spec_l00Src_next, .gen (denFn Try.prog ev_spec_l00Src_next n_spec_l00Src_next))]
theorem eo_spec_l00Src_pick : EnvOK Try.prog ev_spec_l00Src_pick := (EconsG (gen_of_den eo_spec_l00Src_next mixed hb_spec_l00Src_next) E0)
theorem tg_spec_l00Src_pick {B : Base} {h : Heap} {o_ : Nat} (s_ : l00Src) (n_ : Int) (O : Hold B h [(AV.ptr o_ 1 0 0, .pt 3 [Sl.enc s_.code, iv s_.pos, AV.sc (.int .u64 s_.seed)])]) : Sim (denFn Try.prog ev_spec_l00Src_pick n_spec_l00Src_pick [AV.ptr o_ 1 0 0, iv n_] h) (t_spec_l00Src_pick s_ n_) (fun c p => p.1 = iv c.1 ∧ Hold B p.2 [(AV.ptr o_ 1 0 0, .pt 3 [Sl.enc c.2.code, iv c.2.pos, AV.sc (.int .u64 c.2.seed)])]) := ts_spec_l00Src_pick ev_spec_l00Src_pick (by simp [ev_spec_l00Src_pick, envL]) s_ n_  O

def t_spec_l00Src_one (s_ : l00Src) (n_ : Int) : Option (Bool × l00Src) :=
  obind (t_spec_l00Src_pick s_ n_) fun c1 =>
  some (decide (c1.1 = 0), (⟨c1.2.code, c1.2.pos, c1.2.seed⟩ : l00Src))

theorem ts_spec_l00Src_one (env : Nat → Contract) (he_spec_l00Src_pick : env n_spec_l00Src_pick = .gen (denFn Try.prog ev_spec_l00Src_pick n_spec_l00Src_pick)) {B : Base} {h : Heap} {o_ : Nat} (s_ : l00Src) (n_ : Int) (O : Hold B h [(AV.ptr o_ 1 0 0, .pt 3 [Sl.enc s_.code, iv s_.pos, AV.sc (.int .u64 s_.seed)])]) : Sim (denFn Try.prog env n_spec_l00Src_one [AV.ptr o_ 1 0 0, iv n_] h) (t_spec_l00Src_one s_ n_) (fun c p => p.1 = bv c.1 ∧ Hold B p.2 [(AV.ptr o_ 1 0 0, .pt 3 [Sl.enc c.2.code, iv c.2.pos, AV.sc (.int .u64 c.2.seed)])]) := by
  rw [e_spec_l00Src_one]
  unfold t_spec_l00Src_one
  refine sim_gen he_spec_l00Src_pick (tg_spec_l00Src_pick s_ n_ (O.start (i := 0) rfl rfl)) (fun c1 v2 h3 hq4 => ?_)
  obtain ⟨e_v2, O5⟩ := hq4
  dsimp only at e_v2
  subst v2
  have O6 : Hold B h3 [(AV.ptr o_ 1 0 0, .pt 3 [Sl.enc c1.2.code, iv c1.2.pos, AV.sc (.int .u64 c1.2.seed)])] := O.merge (i := 0) rfl rfl O5
  refine sim_let (v := bv (decide (c1.1 = 0))) (aCmp_eq _ _) ?_
  exact sim_ret ⟨rfl, O6⟩
noncomputable def ev_spec_l00Src_one : Nat → Contract := envL [(n_spec_l00Src_pick, .gen (denFn Try.prog ev_spec_l00Src_pick n_spec_l00Src_pick))]
theorem eo_spec_l00Src_one : EnvOK Try.prog ev_spec_l00Src_one := (EconsG (gen_of_den eo_spec_l00Src_pick mixed hb_spec_l00Src_pick) E0)
theorem tg_spec_l00Src_one {B : Base} {h : Heap} {o_ : Nat} (s_ : l00Src) (n_ : Int) (O : Hold B h [(AV.ptr o_ 1 0 0, .pt 3 [Sl.enc s_.code, iv s_.pos, AV.sc (.int .u64 s_.seed)])]) : Sim (denFn Try.prog ev_spec_l00Src_one n_spec_l00Src_one [AV.ptr o_ 1 0 0, iv n_] h) (t_spec_l00Src_one s_ n_) (fun c p => p.1 = bv c.1 ∧ Hold B p.2 [(AV.ptr o_ 1 0 0, .pt 3 [Sl.enc c.2.code, iv c.2.pos, AV.sc (.int .u64 c.2.seed)])]) := ts_spec_l00Src_one ev_spec_l00Src_one (by simp [ev_spec_l00Src_one, envL]) s_ n_  O

def t_laws_f6big (code_ : Sl UInt8) : Option Bool :=
  some (decide (4096 < (((code_.getD []).length : Nat) : Int)))

theorem ts_laws_f6big (env : Nat → Contract)  (code_ : Sl UInt8) : Sim (denFn Try.prog env n_laws_f6big [Sl.enc code_] []) (t_laws_f6big code_) fun c p => release p.2 depth p.1 = some ((fun c : Bool => enc c) c) := by
  have O := Hold.nil []
  generalize hB : (⟨[], []⟩ : Base) = B at O
  clear hB
  rw [e_laws_f6big]
  unfold t_laws_f6big
  refine sim_let (v := iv (((code_.getD []).length : Nat) : Int)) (Tab.enc [] code_).len ?_
  refine sim_let (v := bv (decide (4096 < (((code_.getD []).length : Nat) : Int)))) (aBin_gtr _ _) ?_
  exact sim_ret (release_plain (by rfl) _)
theorem tt_laws_f6big : PureOK Try.prog n_laws_f6big (C1 (fun c : Bool => enc c) t_laws_f6big) := pureC1 E0 mixed hb_laws_f6big fun code_ => ts_laws_f6big _  code_

def t_spec_l00Src_among (s_ : l00Src) (list_ : Sl Int) : Option (Int × l00Src) :=
  obind (t_spec_l00Src_pick s_ (((list_.getD []).length : Nat) : Int)) fun c1 =>
  obind (getI (list_.getD []) c1.1) fun a7 =>
  some (a7, (⟨c1.2.code, c1.2.pos, c1.2.seed⟩ : l00Src))

theorem ts_spec_l00Src_among (env : Nat → Contract) (he_spec_l00Src_pick : env n_spec_l00Src_pick = .gen (denFn Try.prog ev_spec_l00Src_pick n_spec_l00Src_pick)) {B : Base} {h : Heap} {o_ : Nat} (s_ : l00Src) (list_ : Sl Int) {list_x : AV} (T_list_ : ∀ h, (∀ o, o < B.h0.length → o ∉ B.F → h[o]? = B.h0[o]?) → Tab h list_x list_) (O : Hold B h [(AV.ptr o_ 1 0 0, .pt 3 [Sl.enc s_.code, iv s_.pos, AV.sc (.int .u64 s_.seed)])]) : Sim (denFn Try.prog env n_spec_l00Src_among [AV.ptr o_ 1 0 0, list_x] h) (t_spec_l00Src_among s_ list_) (fun c p => p.1 = iv c.1 ∧ Hold B p.2 [(AV.ptr o_ 1 0 0, .pt 3 [Sl.enc c.2.code, iv c.2.pos, AV.sc (.int .u64 c.2.seed)])]) := by
  rw [e_spec_l00Src_among]
  unfold t_spec_l00Src_among
  refine sim_let (v := iv (((list_.getD []).length : Nat) : Int)) (T_list_ _ O.keep).len ?_
  refine sim_gen he_spec_l00Src_pick (tg_spec_l00Src_pick s_ (((list_.getD []).length : Nat) : Int) (O.start (i := 0) rfl rfl)) (fun c1 v2 h3 hq4 => ?_)
  obtain ⟨e_v2, O5⟩ := hq4
  dsimp only at e_v2
  subst v2
  have O6 : Hold B h3 [(AV.ptr o_ 1 0 0, .pt 3 [Sl.enc c1.2.code, iv c1.2.pos, AV.sc (.int .u64 c1.2.seed)])] := O.merge (i := 0) rfl rfl O5
  refine sim_get (T_list_ _ O6.keep) (fun m8 a7 hi9 hm10 => ?_)
  refine sim_let (v := iv a7) ((T_list_ _ O6.keep).ld hm10 false 1 0) ?_
  exact sim_ret ⟨rfl, O6⟩
noncomputable def ev_spec_l00Src_among : Nat → Contract := envL [(n_spec_l00Src_pick, .gen (denFn Try.prog ev_spec_l00Src_pick n_spec_l00Src_pick))]
theorem eo_spec_l00Src_among : EnvOK Try.prog ev_spec_l00Src_among := (EconsG (gen_of_den eo_spec_l00Src_pick mixed hb_spec_l00Src_pick) E0)
theorem tg_spec_l00Src_among {B : Base} {h : Heap} {o_ : Nat} (s_ : l00Src) (list_ : Sl Int) {list_x : AV} (T_list_ : ∀ h, (∀ o, o < B.h0.length → o ∉ B.F → h[o]? = B.h0[o]?) → Tab h list_x list_) (O : Hold B h [(AV.ptr o_ 1 0 0, .pt 3 [Sl.enc s_.code, iv s_.pos, AV.sc (.int .u64 s_.seed)])]) : Sim (denFn Try.prog ev_spec_l00Src_among n_spec_l00Src_among [AV.ptr o_ 1 0 0, list_x] h) (t_spec_l00Src_among s_ list_) (fun c p => p.1 = iv c.1 ∧ Hold B p.2 [(AV.ptr o_ 1 0 0, .pt 3 [Sl.enc c.2.code, iv c.2.pos, AV.sc (.int .u64 c.2.seed)])]) := ts_spec_l00Src_among ev_spec_l00Src_among (by simp [ev_spec_l00Src_among, envL]) s_ list_ T_list_ O

def t_spec_l02DrawBox (s_ : l00Src) : Option (Box × l00Src) :=
  obind (t_spec_l00Src_pick s_ 900) fun c5 =>
  obind (t_spec_l00Src_pick c5.2 900) fun c11 =>
  obind (t_spec_l00Src_pick c11.2 300) fun c17 =>
  obind (t_spec_l00Src_pick c17.2 300) fun c23 =>
  obind (t_spec_l00Src_pick c23.2 16) fun c35 =>
  bif decide (c35.1 = 0) then
    obind (t_spec_l00Src_among c35.2 (some ([(-1), wr (c5.1 + c17.1), wr ((wr (c5.1 + c17.1)) + 1)] : List Int))) fun c46 =>
    some ((⟨c46.1, c11.1, wr (c5.1 + c17.1), wr (c11.1 + c23.1)⟩ : Box), (⟨c46.2.code, c46.2.pos, c46.2.seed⟩ : l00Src))
  else
    bif decide (c35.1 = 1) then
      obind (t_spec_l00Src_among c35.2 (some ([4095, 4096, (-1)] : List Int))) fun c62 =>
      some ((⟨c5.1, c11.1, wr (c5.1 + c17.1), c62.1⟩ : Box), (⟨c62.2.code, c62.2.pos, c62.2.seed⟩ : l00Src))
    else
      some ((⟨c5.1, c11.1, wr (c5.1 + c17.1), wr (c11.1 + c23.1)⟩ : Box), (⟨c35.2.code, c35.2.pos, c35.2.seed⟩ : l00Src))

theorem ts_spec_l02DrawBox (env : Nat → Contract) (he_spec_l00Src_among : env n_spec_l00Src_among = .gen (denFn Try.prog ev_spec_l00Src_among n_spec_l00Src_among)) (he_spec_l00Src_pick : env n_spec_l00Src_pick = .gen (denFn Try.prog ev_spec_l00Src_pick n_spec_l00Src_pick)) {B : Base} {h : Heap} {o_ : Nat} (s_ : l00Src) (O : Hold B h [(AV.ptr o_ 1 0 0, .pt 3 [Sl.enc s_.code, iv s_.pos, AV.sc (.int .u64 s_.seed)])]) : Sim (denFn Try.prog env n_spec_l02DrawBox [AV.ptr o_ 1 0 0] h) (t_spec_l02DrawBox s_) (fun c p => p.1 = AV.agg [iv c.1.x1, iv c.1.y1, iv c.1.x2, iv c.1.y2] ∧ Hold B p.2 [(AV.ptr o_ 1 0 0, .pt 3 [Sl.enc c.2.code, iv c.2.pos, AV.sc (.int .u64 c.2.seed)])]) := by
  rw [e_spec_l02DrawBox]
  unfold t_spec_l02DrawBox
  refine sim_box O (cs := [iv 0, iv 0, iv 0, iv 0]) (by first | rfl | simp) (fun o1 h2 O3 => ?_)
  replace O3 : Hold B h2 [(AV.ptr o_ 1 0 0, .pt 3 [Sl.enc s_.code, iv s_.pos, AV.sc (.int .u64 s_.seed)]), (AV.ptr o1 1 0 0, .pt 4 [iv 0, iv 0, iv 0, iv 0])] := O3
  refine sim_gen he_spec_l00Src_pick (tg_spec_l00Src_pick s_ 900 (O3.start (i := 0) rfl rfl)) (fun c5 v6 h7 hq8 => ?_)
  obtain ⟨e_v6, O9⟩ := hq8
  dsimp only at e_v6
  subst v6
  have O10 : Hold B h7 [(AV.ptr o_ 1 0 0, .pt 3 [Sl.enc c5.2.code, iv c5.2.pos, AV.sc (.int .u64 c5.2.seed)]), (AV.ptr o1 1 0 0, .pt 4 [iv 0, iv 0, iv 0, iv 0])] := O3.merge (i := 0) rfl rfl O9
  refine sim_gen he_spec_l00Src_pick (tg_spec_l00Src_pick c5.2 900 (O10.start (i := 0) rfl rfl)) (fun c11 v12 h13 hq14 => ?_)
  obtain ⟨e_v12, O15⟩ := hq14
  dsimp only at e_v12
  subst v12
  have O16 : Hold B h13 [(AV.ptr o_ 1 0 0, .pt 3 [Sl.enc c11.2.code, iv c11.2.pos, AV.sc (.int .u64 c11.2.seed)]), (AV.ptr o1 1 0 0, .pt 4 [iv 0, iv 0, iv 0, iv 0])] := O10.merge (i := 0) rfl rfl O15
  refine sim_gen he_spec_l00Src_pick (tg_spec_l00Src_pick c11.2 300 (O16.start (i := 0) rfl rfl)) (fun c17 v18 h19 hq20 => ?_)
  obtain ⟨e_v18, O21⟩ := hq20
  dsimp only at e_v18
  subst v18
  have O22 : Hold B h19 [(AV.ptr o_ 1 0 0, .pt 3 [Sl.enc c17.2.code, iv c17.2.pos, AV.sc (.int .u64 c17.2.seed)]), (AV.ptr o1 1 0 0, .pt 4 [iv 0, iv 0, iv 0, iv 0])] := O16.merge (i := 0) rfl rfl O21
  refine sim_let (v := iv (wr (c5.1 + c17.1))) (aBin_add _ _) ?_
  refine sim_gen he_spec_l00Src_pick (tg_spec_l00Src_pick c17.2 300 (O22.start (i := 0) rfl rfl)) (fun c23 v24 h25 hq26 => ?_)
  obtain ⟨e_v24, O27⟩ := hq26
  dsimp only at e_v24
  subst v24
  have O28 : Hold B h25 [(AV.ptr o_ 1 0 0, .pt 3 [Sl.enc c23.2.code, iv c23.2.pos, AV.sc (.int .u64 c23.2.seed)]), (AV.ptr o1 1 0 0, .pt 4 [iv 0, iv 0, iv 0, iv 0])] := O22.merge (i := 0) rfl rfl O27
  refine sim_let (v := iv (wr (c11.1 + c23.1))) (aBin_add _ _) ?_
  refine sim_let (v := AV.agg [iv c5.1, iv c11.1, iv (wr (c5.1 + c17.1)), iv (wr (c11.1 + c23.1))]) (by first | rfl | simp [aBuild, aFill, splice]) ?_
  refine sim_box O28 (cs := [iv 0, iv 0, iv 0, iv 0]) (by first | rfl | simp) (fun o29 h30 O31 => ?_)
  replace O31 : Hold B h30 [(AV.ptr o_ 1 0 0, .pt 3 [Sl.enc c23.2.code, iv c23.2.pos, AV.sc (.int .u64 c23.2.seed)]), (AV.ptr o1 1 0 0, .pt 4 [iv 0, iv 0, iv 0, iv 0]), (AV.ptr o29 1 0 0, .pt 4 [iv 0, iv 0, iv 0, iv 0])] := O31
  refine sim_store O31 2 (cs' := [iv c5.1, iv c11.1, iv (wr (c5.1 + c17.1)), iv (wr (c11.1 + c23.1))]) rfl (by first | rfl | simp) (by simp) (by first | rfl | simp) (by first | rfl | simp [splice]) (fun h33 O34 => ?_)
  replace O34 : Hold B h33 [(AV.ptr o_ 1 0 0, .pt 3 [Sl.enc c23.2.code, iv c23.2.pos, AV.sc (.int .u64 c23.2.seed)]), (AV.ptr o1 1 0 0, .pt 4 [iv 0, iv 0, iv 0, iv 0]), (AV.ptr o29 1 0 0, .pt 4 [iv c5.1, iv c11.1, iv (wr (c5.1 + c17.1)), iv (wr (c11.1 + c23.1))])] := O34
  refine sim_gen he_spec_l00Src_pick (tg_spec_l00Src_pick c23.2 16 (O34.start (i := 0) rfl rfl)) (fun c35 v36 h37 hq38 => ?_)
  obtain ⟨e_v36, O39⟩ := hq38
  dsimp only at e_v36
  subst v36
  have O40 : Hold B h37 [(AV.ptr o_ 1 0 0, .pt 3 [Sl.enc c35.2.code, iv c35.2.pos, AV.sc (.int .u64 c35.2.seed)]), (AV.ptr o1 1 0 0, .pt 4 [iv 0, iv 0, iv 0, iv 0]), (AV.ptr o29 1 0 0, .pt 4 [iv c5.1, iv c11.1, iv (wr (c5.1 + c17.1)), iv (wr (c11.1 + c23.1))])] := O34.merge (i := 0) rfl rfl O39
  refine sim_let (v := bv (decide (c35.1 = 0))) (aCmp_eq _ _) ?_
  refine sim_cond (fun c41 => ?_) (fun c41 => ?_)
  · refine sim_let (v := AV.ptr o29 1 0 2) rfl ?_
    refine sim_let (v := iv (wr (c5.1 + c17.1))) (O40.ld 2 rfl false 1 2) ?_
    refine sim_let (v := AV.ptr o29 1 0 2) rfl ?_
    refine sim_let (v := iv (wr (c5.1 + c17.1))) (O40.ld 2 rfl false 1 2) ?_
    refine sim_let (v := iv (wr ((wr (c5.1 + c17.1)) + 1))) (aBin_add _ _) ?_
    refine sim_build (A := Int) O40 ([(-1), wr (c5.1 + c17.1), wr ((wr (c5.1 + c17.1)) + 1)] : List Int) rfl (by first | rfl | simp [aFillRows, zrows]) rfl (fun x42 h43 O44 => ?_)
    replace O44 : Hold B h43 [(AV.ptr o_ 1 0 0, .pt 3 [Sl.enc c35.2.code, iv c35.2.pos, AV.sc (.int .u64 c35.2.seed)]), (AV.ptr o1 1 0 0, .pt 4 [iv 0, iv 0, iv 0, iv 0]), (AV.ptr o29 1 0 0, .pt 4 [iv c5.1, iv c11.1, iv (wr (c5.1 + c17.1)), iv (wr (c11.1 + c23.1))]), (x42, obS ((some ([(-1), wr (c5.1 + c17.1), wr ((wr (c5.1 + c17.1)) + 1)] : List Int)) : Sl Int))] := O44
    refine sim_gen he_spec_l00Src_among (tg_spec_l00Src_among c35.2 (some ([(-1), wr (c5.1 + c17.1), wr ((wr (c5.1 + c17.1)) + 1)] : List Int)) (O44.tabK (A := Int) (s := (some ([(-1), wr (c5.1 + c17.1), wr ((wr (c5.1 + c17.1)) + 1)] : List Int))) 3 0 rfl rfl rfl (by decide)) (O44.start (i := 0) rfl rfl)) (fun c46 v47 h48 hq49 => ?_)
    obtain ⟨e_v47, O50⟩ := hq49
    dsimp only at e_v47
    subst v47
    have O51 : Hold B h48 [(AV.ptr o_ 1 0 0, .pt 3 [Sl.enc c46.2.code, iv c46.2.pos, AV.sc (.int .u64 c46.2.seed)]), (AV.ptr o1 1 0 0, .pt 4 [iv 0, iv 0, iv 0, iv 0]), (AV.ptr o29 1 0 0, .pt 4 [iv c5.1, iv c11.1, iv (wr (c5.1 + c17.1)), iv (wr (c11.1 + c23.1))]), (x42, obS ((some ([(-1), wr (c5.1 + c17.1), wr ((wr (c5.1 + c17.1)) + 1)] : List Int)) : Sl Int))] := O44.merge (i := 0) rfl rfl O50
    refine sim_let (v := AV.ptr o29 1 0 0) rfl ?_
    refine sim_store O51 2 (cs' := [iv c46.1, iv c11.1, iv (wr (c5.1 + c17.1)), iv (wr (c11.1 + c23.1))]) rfl (by first | rfl | simp) (by simp) (by first | rfl | simp) (by first | rfl | simp [splice]) (fun h52 O53 => ?_)
    replace O53 : Hold B h52 [(AV.ptr o_ 1 0 0, .pt 3 [Sl.enc c46.2.code, iv c46.2.pos, AV.sc (.int .u64 c46.2.seed)]), (AV.ptr o1 1 0 0, .pt 4 [iv 0, iv 0, iv 0, iv 0]), (AV.ptr o29 1 0 0, .pt 4 [iv c46.1, iv c11.1, iv (wr (c5.1 + c17.1)), iv (wr (c11.1 + c23.1))]), (x42, obS ((some ([(-1), wr (c5.1 + c17.1), wr ((wr (c5.1 + c17.1)) + 1)] : List Int)) : Sl Int))] := O53
    refine sim_let (v := AV.agg [iv c46.1, iv c11.1, iv (wr (c5.1 + c17.1)), iv (wr (c11.1 + c23.1))]) (O53.ld 2 rfl true 4 0) ?_
    refine sim_store O53 1 (cs' := [iv c46.1, iv c11.1, iv (wr (c5.1 + c17.1)), iv (wr (c11.1 + c23.1))]) rfl (by first | rfl | simp) (by simp) (by first | rfl | simp) (by first | rfl | simp [splice]) (fun h54 O55 => ?_)
    replace O55 : Hold B h54 [(AV.ptr o_ 1 0 0, .pt 3 [Sl.enc c46.2.code, iv c46.2.pos, AV.sc (.int .u64 c46.2.seed)]), (AV.ptr o1 1 0 0, .pt 4 [iv c46.1, iv c11.1, iv (wr (c5.1 + c17.1)), iv (wr (c11.1 + c23.1))]), (AV.ptr o29 1 0 0, .pt 4 [iv c46.1, iv c11.1, iv (wr (c5.1 + c17.1)), iv (wr (c11.1 + c23.1))]), (x42, obS ((some ([(-1), wr (c5.1 + c17.1), wr ((wr (c5.1 + c17.1)) + 1)] : List Int)) : Sl Int))] := O55
    refine sim_retL (resL_c (v := AV.agg [iv c46.1, iv c11.1, iv (wr (c5.1 + c17.1)), iv (wr (c11.1 + c23.1))]) (O55.ld 1 rfl true 4 0) (resL_nil _)) ?_
    dsimp only [pack]
    have O56 : Hold B h54 [(AV.ptr o_ 1 0 0, .pt 3 [Sl.enc c46.2.code, iv c46.2.pos, AV.sc (.int .u64 c46.2.seed)])] := O55.sel [0] (by decide) rfl
    exact sim_ret ⟨rfl, O56⟩
  · refine sim_let (v := bv (decide (c35.1 = 1))) (aCmp_eq _ _) ?_
    refine sim_cond (fun c57 => ?_) (fun c57 => ?_)
    · refine sim_build (A := Int) O40 ([4095, 4096, (-1)] : List Int) rfl (by first | rfl | simp [aFillRows, zrows]) rfl (fun x58 h59 O60 => ?_)
      replace O60 : Hold B h59 [(AV.ptr o_ 1 0 0, .pt 3 [Sl.enc c35.2.code, iv c35.2.pos, AV.sc (.int .u64 c35.2.seed)]), (AV.ptr o1 1 0 0, .pt 4 [iv 0, iv 0, iv 0, iv 0]), (AV.ptr o29 1 0 0, .pt 4 [iv c5.1, iv c11.1, iv (wr (c5.1 + c17.1)), iv (wr (c11.1 + c23.1))]), (x58, obS ((some ([4095, 4096, (-1)] : List Int)) : Sl Int))] := O60
      refine sim_gen he_spec_l00Src_among (tg_spec_l00Src_among c35.2 (some ([4095, 4096, (-1)] : List Int)) (O60.tabK (A := Int) (s := (some ([4095, 4096, (-1)] : List Int))) 3 0 rfl rfl rfl (by decide)) (O60.start (i := 0) rfl rfl)) (fun c62 v63 h64 hq65 => ?_)
      obtain ⟨e_v63, O66⟩ := hq65
      dsimp only at e_v63
      subst v63
      have O67 : Hold B h64 [(AV.ptr o_ 1 0 0, .pt 3 [Sl.enc c62.2.code, iv c62.2.pos, AV.sc (.int .u64 c62.2.seed)]), (AV.ptr o1 1 0 0, .pt 4 [iv 0, iv 0, iv 0, iv 0]), (AV.ptr o29 1 0 0, .pt 4 [iv c5.1, iv c11.1, iv (wr (c5.1 + c17.1)), iv (wr (c11.1 + c23.1))]), (x58, obS ((some ([4095, 4096, (-1)] : List Int)) : Sl Int))] := O60.merge (i := 0) rfl rfl O66
      refine sim_let (v := AV.ptr o29 1 0 3) rfl ?_
      refine sim_store O67 2 (cs' := [iv c5.1, iv c11.1, iv (wr (c5.1 + c17.1)), iv c62.1]) rfl (by first | rfl | simp) (by simp) (by first | rfl | simp) (by first | rfl | simp [splice]) (fun h68 O69 => ?_)
      replace O69 : Hold B h68 [(AV.ptr o_ 1 0 0, .pt 3 [Sl.enc c62.2.code, iv c62.2.pos, AV.sc (.int .u64 c62.2.seed)]), (AV.ptr o1 1 0 0, .pt 4 [iv 0, iv 0, iv 0, iv 0]), (AV.ptr o29 1 0 0, .pt 4 [iv c5.1, iv c11.1, iv (wr (c5.1 + c17.1)), iv c62.1]), (x58, obS ((some ([4095, 4096, (-1)] : List Int)) : Sl Int))] := O69
      refine sim_let (v := AV.agg [iv c5.1, iv c11.1, iv (wr (c5.1 + c17.1)), iv c62.1]) (O69.ld 2 rfl true 4 0) ?_
      refine sim_store O69 1 (cs' := [iv c5.1, iv c11.1, iv (wr (c5.1 + c17.1)), iv c62.1]) rfl (by first | rfl | simp) (by simp) (by first | rfl | simp) (by first | rfl | simp [splice]) (fun h70 O71 => ?_)
      replace O71 : Hold B h70 [(AV.ptr o_ 1 0 0, .pt 3 [Sl.enc c62.2.code, iv c62.2.pos, AV.sc (.int .u64 c62.2.seed)]), (AV.ptr o1 1 0 0, .pt 4 [iv c5.1, iv c11.1, iv (wr (c5.1 + c17.1)), iv c62.1]), (AV.ptr o29 1 0 0, .pt 4 [iv c5.1, iv c11.1, iv (wr (c5.1 + c17.1)), iv c62.1]), (x58, obS ((some ([4095, 4096, (-1)] : List Int)) : Sl Int))] := O71
      refine sim_retL (resL_c (v := AV.agg [iv c5.1, iv c11.1, iv (wr (c5.1 + c17.1)), iv c62.1]) (O71.ld 1 rfl true 4 0) (resL_nil _)) ?_
      dsimp only [pack]
      have O72 : Hold B h70 [(AV.ptr o_ 1 0 0, .pt 3 [Sl.enc c62.2.code, iv c62.2.pos, AV.sc (.int .u64 c62.2.seed)])] := O71.sel [0] (by decide) rfl
      exact sim_ret ⟨rfl, O72⟩
    · refine sim_let (v := AV.agg [iv c5.1, iv c11.1, iv (wr (c5.1 + c17.1)), iv (wr (c11.1 + c23.1))]) (O40.ld 2 rfl true 4 0) ?_
      refine sim_store O40 1 (cs' := [iv c5.1, iv c11.1, iv (wr (c5.1 + c17.1)), iv (wr (c11.1 + c23.1))]) rfl (by first | rfl | simp) (by simp) (by first | rfl | simp) (by first | rfl | simp [splice]) (fun h73 O74 => ?_)
      replace O74 : Hold B h73 [(AV.ptr o_ 1 0 0, .pt 3 [Sl.enc c35.2.code, iv c35.2.pos, AV.sc (.int .u64 c35.2.seed)]), (AV.ptr o1 1 0 0, .pt 4 [iv c5.1, iv c11.1, iv (wr (c5.1 + c17.1)), iv (wr (c11.1 + c23.1))]), (AV.ptr o29 1 0 0, .pt 4 [iv c5.1, iv c11.1, iv (wr (c5.1 + c17.1)), iv (wr (c11.1 + c23.1))])] := O74
      refine sim_retL (resL_c (v := AV.agg [iv c5.1, iv c11.1, iv (wr (c5.1 + c17.1)), iv (wr (c11.1 + c23.1))]) (O74.ld 1 rfl true 4 0) (resL_nil _)) ?_
      dsimp only [pack]
      have O75 : Hold B h73 [(AV.ptr o_ 1 0 0, .pt 3 [Sl.enc c35.2.code, iv c35.2.pos, AV.sc (.int .u64 c35.2.seed)])] := O74.sel [0] (by decide) rfl
      exact sim_ret ⟨rfl, O75⟩
noncomputable def ev_spec_l02DrawBox : Nat → Contract := envL [(n_spec_l00Src_among, .gen (denFn Try.prog ev_spec_l00Src_among n_spec_l00Src_among)), (n_spec_l00Src_pick, .gen (denFn Try.prog ev_spec_l00Src_pick n_spec_l00Src_pick))]
theorem eo_spec_l02DrawBox : EnvOK Try.prog ev_spec_l02DrawBox := (EconsG (gen_of_den eo_spec_l00Src_among mixed hb_spec_l00Src_among) (EconsG (gen_of_den eo_spec_l00Src_pick mixed hb_spec_l00Src_pick) E0))
theorem tg_spec_l02DrawBox {B : Base} {h : Heap} {o_ : Nat} (s_ : l00Src) (O : Hold B h [(AV.ptr o_ 1 0 0, .pt 3 [Sl.enc s_.code, iv s_.pos, AV.sc (.int .u64 s_.seed)])]) : Sim (denFn Try.prog ev_spec_l02DrawBox n_spec_l02DrawBox [AV.ptr o_ 1 0 0] h) (t_spec_l02DrawBox s_) (fun c p => p.1 = AV.agg [iv c.1.x1, iv c.1.y1, iv c.1.x2, iv c.1.y2] ∧ Hold B p.2 [(AV.ptr o_ 1 0 0, .pt 3 [Sl.enc c.2.code, iv c.2.pos, AV.sc (.int .u64 c.2.seed)])]) := ts_spec_l02DrawBox ev_spec_l02DrawBox (by simp [ev_spec_l02DrawBox, envL]) (by simp [ev_spec_l02DrawBox, envL]) s_  O

def t_spec_l20Near (s_ : l00Src) (a_ : Box) : Option (Box × l00Src) :=
  obind (t_spec_l00Src_pick s_ 90) fun c9 =>
  obind (some ((fun a b : Int => max a b) 0 (wr ((wr (a_.x1 + c9.1)) - 30)))) fun c15 =>
  obind (t_spec_l00Src_pick c9.2 90) fun c16 =>
  obind (some ((fun a b : Int => max a b) 0 (wr ((wr (a_.y1 + c16.1)) - 45)))) fun c22 =>
  obind (t_spec_l00Src_pick c16.2 50) fun c23 =>
  obind (t_spec_l00Src_pick c23.2 50) fun c29 =>
  some ((⟨c15, c22, wr (c15 + c23.1), wr (c22 + c29.1)⟩ : Box), (⟨c29.2.code, c29.2.pos, c29.2.seed⟩ : l00Src))

theorem ts_spec_l20Near (env : Nat → Contract) (he_spec_l00Max : env n_spec_l00Max = .pure (T2 (fun a b : Int => max a b))) (he_spec_l00Src_pick : env n_spec_l00Src_pick = .gen (denFn Try.prog ev_spec_l00Src_pick n_spec_l00Src_pick)) {B : Base} {h : Heap} {o_ : Nat} (s_ : l00Src) (a_ : Box) (O : Hold B h [(AV.ptr o_ 1 0 0, .pt 3 [Sl.enc s_.code, iv s_.pos, AV.sc (.int .u64 s_.seed)])]) : Sim (denFnM true Try.prog env n_spec_l20Near [AV.ptr o_ 1 0 0, AV.agg [iv a_.x1, iv a_.y1, iv a_.x2, iv a_.y2]] h) (t_spec_l20Near s_ a_) (fun c p => p.1 = AV.agg [iv c.1.x1, iv c.1.y1, iv c.1.x2, iv c.1.y2] ∧ Hold B p.2 [(AV.ptr o_ 1 0 0, .pt 3 [Sl.enc c.2.code, iv c.2.pos, AV.sc (.int .u64 c.2.seed)])]) := by
  rw [e_spec_l20Near]
  unfold t_spec_l20Near
  refine sim_box O (cs := [iv a_.x1, iv a_.y1, iv a_.x2, iv a_.y2]) (by first | rfl | simp) (fun o1 h2 O3 => ?_)
  replace O3 : Hold B h2 [(AV.ptr o_ 1 0 0, .pt 3 [Sl.enc s_.code, iv s_.pos, AV.sc (.int .u64 s_.seed)]), (AV.ptr o1 1 0 0, .pt 4 [iv a_.x1, iv a_.y1, iv a_.x2, iv a_.y2])] := O3
  refine sim_box O3 (cs := [iv 0, iv 0, iv 0, iv 0]) (by first | rfl | simp) (fun o5 h6 O7 => ?_)
  replace O7 : Hold B h6 [(AV.ptr o_ 1 0 0, .pt 3 [Sl.enc s_.code, iv s_.pos, AV.sc (.int .u64 s_.seed)]), (AV.ptr o1 1 0 0, .pt 4 [iv a_.x1, iv a_.y1, iv a_.x2, iv a_.y2]), (AV.ptr o5 1 0 0, .pt 4 [iv 0, iv 0, iv 0, iv 0])] := O7
  refine sim_let (v := AV.ptr o1 1 0 0) rfl ?_
  refine sim_let (v := iv a_.x1) (O7.ld 1 rfl false 1 0) ?_
  refine sim_gen he_spec_l00Src_pick (tg_spec_l00Src_pick s_ 90 (O7.start (i := 0) rfl rfl)) (fun c9 v10 h11 hq12 => ?_)
  obtain ⟨e_v10, O13⟩ := hq12
  dsimp only at e_v10
  subst v10
  have O14 : Hold B h11 [(AV.ptr o_ 1 0 0, .pt 3 [Sl.enc c9.2.code, iv c9.2.pos, AV.sc (.int .u64 c9.2.seed)]), (AV.ptr o1 1 0 0, .pt 4 [iv a_.x1, iv a_.y1, iv a_.x2, iv a_.y2]), (AV.ptr o5 1 0 0, .pt 4 [iv 0, iv 0, iv 0, iv 0])] := O7.merge (i := 0) rfl rfl O13
  refine sim_guardP O13.len ?_
  refine sim_let (v := iv (wr (a_.x1 + c9.1))) (aBin_add _ _) ?_
  refine sim_let (v := iv (wr ((wr (a_.x1 + c9.1)) - 30))) (aBin_sub _ _) ?_
  refine sim_callV2 he_spec_l00Max (snapD_int _ _) (snapD_int _ _) (fun c15 => ?_)
  refine sim_guardP (Nat.le_refl _) ?_
  refine sim_guardP ⟨⟨(at_of (v := iv a_.x1) (O7.ld 1 rfl false 1 0)), ⟨(at_of (v := iv a_.x1) (O14.ld 1 rfl false 1 0)), ⟨(at_of (v := iv a_.x1) (O14.ld 1 rfl false 1 0)), trivial⟩⟩⟩, trivial⟩ ?_
  refine sim_let (v := AV.ptr o1 1 0 1) rfl ?_
  refine sim_let (v := iv a_.y1) (O14.ld 1 rfl false 1 1) ?_
  refine sim_gen he_spec_l00Src_pick (tg_spec_l00Src_pick c9.2 90 (O14.start (i := 0) rfl rfl)) (fun c16 v17 h18 hq19 => ?_)
  obtain ⟨e_v17, O20⟩ := hq19
  dsimp only at e_v17
  subst v17
  have O21 : Hold B h18 [(AV.ptr o_ 1 0 0, .pt 3 [Sl.enc c16.2.code, iv c16.2.pos, AV.sc (.int .u64 c16.2.seed)]), (AV.ptr o1 1 0 0, .pt 4 [iv a_.x1, iv a_.y1, iv a_.x2, iv a_.y2]), (AV.ptr o5 1 0 0, .pt 4 [iv 0, iv 0, iv 0, iv 0])] := O14.merge (i := 0) rfl rfl O20
  refine sim_guardP O20.len ?_
  refine sim_let (v := iv (wr (a_.y1 + c16.1))) (aBin_add _ _) ?_
  refine sim_let (v := iv (wr ((wr (a_.y1 + c16.1)) - 45))) (aBin_sub _ _) ?_
  refine sim_callV2 he_spec_l00Max (snapD_int _ _) (snapD_int _ _) (fun c22 => ?_)
  refine sim_guardP (Nat.le_refl _) ?_
  refine sim_guardP ⟨⟨(at_of (v := iv a_.y1) (O14.ld 1 rfl false 1 1)), ⟨(at_of (v := iv a_.y1) (O21.ld 1 rfl false 1 1)), ⟨(at_of (v := iv a_.y1) (O21.ld 1 rfl false 1 1)), trivial⟩⟩⟩, trivial⟩ ?_
  refine sim_gen he_spec_l00Src_pick (tg_spec_l00Src_pick c16.2 50 (O21.start (i := 0) rfl rfl)) (fun c23 v24 h25 hq26 => ?_)
  obtain ⟨e_v24, O27⟩ := hq26
  dsimp only at e_v24
  subst v24
  have O28 : Hold B h25 [(AV.ptr o_ 1 0 0, .pt 3 [Sl.enc c23.2.code, iv c23.2.pos, AV.sc (.int .u64 c23.2.seed)]), (AV.ptr o1 1 0 0, .pt 4 [iv a_.x1, iv a_.y1, iv a_.x2, iv a_.y2]), (AV.ptr o5 1 0 0, .pt 4 [iv 0, iv 0, iv 0, iv 0])] := O21.merge (i := 0) rfl rfl O27
  refine sim_let (v := iv (wr (c15 + c23.1))) (aBin_add _ _) ?_
  refine sim_gen he_spec_l00Src_pick (tg_spec_l00Src_pick c23.2 50 (O28.start (i := 0) rfl rfl)) (fun c29 v30 h31 hq32 => ?_)
  obtain ⟨e_v30, O33⟩ := hq32
  dsimp only at e_v30
  subst v30
  have O34 : Hold B h31 [(AV.ptr o_ 1 0 0, .pt 3 [Sl.enc c29.2.code, iv c29.2.pos, AV.sc (.int .u64 c29.2.seed)]), (AV.ptr o1 1 0 0, .pt 4 [iv a_.x1, iv a_.y1, iv a_.x2, iv a_.y2]), (AV.ptr o5 1 0 0, .pt 4 [iv 0, iv 0, iv 0, iv 0])] := O28.merge (i := 0) rfl rfl O33
  refine sim_let (v := iv (wr (c22 + c29.1))) (aBin_add _ _) ?_
  refine sim_let (v := AV.agg [iv c15, iv c22, iv (wr (c15 + c23.1)), iv (wr (c22 + c29.1))]) (by first | rfl | simp [aBuild, aFill, splice]) ?_
  refine sim_store O34 2 (cs' := [iv c15, iv c22, iv (wr (c15 + c23.1)), iv (wr (c22 + c29.1))]) rfl (by first | rfl | simp) (by simp) (by first | rfl | simp) (by first | rfl | simp [splice]) (fun h35 O36 => ?_)
  replace O36 : Hold B h35 [(AV.ptr o_ 1 0 0, .pt 3 [Sl.enc c29.2.code, iv c29.2.pos, AV.sc (.int .u64 c29.2.seed)]), (AV.ptr o1 1 0 0, .pt 4 [iv a_.x1, iv a_.y1, iv a_.x2, iv a_.y2]), (AV.ptr o5 1 0 0, .pt 4 [iv c15, iv c22, iv (wr (c15 + c23.1)), iv (wr (c22 + c29.1))])] := O36
  refine sim_retL (resL_c (v := AV.agg [iv c15, iv c22, iv (wr (c15 + c23.1)), iv (wr (c22 + c29.1))]) (O36.ld 2 rfl true 4 0) (resL_nil _)) ?_
  dsimp only [pack]
  have O37 : Hold B h35 [(AV.ptr o_ 1 0 0, .pt 3 [Sl.enc c29.2.code, iv c29.2.pos, AV.sc (.int .u64 c29.2.seed)])] := O36.sel [0] (by decide) rfl
  exact sim_ret ⟨rfl, O37⟩
noncomputable def ev_spec_l20Near : Nat → Contract := envL [(n_spec_l00Max, .pure (T2 (fun a b : Int => max a b))), (n_spec_l00Src_pick, .gen (denFn Try.prog ev_spec_l00Src_pick n_spec_l00Src_pick))]
theorem eo_spec_l20Near : EnvOK Try.prog ev_spec_l20Near := (Econs ok_spec_l00Max (EconsG (gen_of_den eo_spec_l00Src_pick mixed hb_spec_l00Src_pick) E0))
theorem tg_spec_l20Near {B : Base} {h : Heap} {o_ : Nat} (s_ : l00Src) (a_ : Box) (O : Hold B h [(AV.ptr o_ 1 0 0, .pt 3 [Sl.enc s_.code, iv s_.pos, AV.sc (.int .u64 s_.seed)])]) : Sim (denFnM true Try.prog ev_spec_l20Near n_spec_l20Near [AV.ptr o_ 1 0 0, AV.agg [iv a_.x1, iv a_.y1, iv a_.x2, iv a_.y2]] h) (t_spec_l20Near s_ a_) (fun c p => p.1 = AV.agg [iv c.1.x1, iv c.1.y1, iv c.1.x2, iv c.1.y2] ∧ Hold B p.2 [(AV.ptr o_ 1 0 0, .pt 3 [Sl.enc c.2.code, iv c.2.pos, AV.sc (.int .u64 c.2.seed)])]) := ts_spec_l20Near ev_spec_l20Near (by simp [ev_spec_l20Near, envL]) (by simp [ev_spec_l20Near, envL]) s_ a_  O

def t_spec_l20Two (s_ : l00Src) : Option (Box × Box × l00Src) :=
  obind (t_spec_l02DrawBox s_) fun c9 =>
  obind (t_spec_l00Src_one c9.2 4) fun c21 =>
  bif c21.1 then
    obind (t_spec_l02DrawBox c21.2) fun c28 =>
    some (c9.1, c28.1, (⟨c28.2.code, c28.2.pos, c28.2.seed⟩ : l00Src))
  else
    obind (some (validBox c9.1)) fun c39 =>
    bif !c39 then
      some (c9.1, c9.1, (⟨c21.2.code, c21.2.pos, c21.2.seed⟩ : l00Src))
    else
      obind (t_spec_l00Src_one c21.2 6) fun c46 =>
      bif c46.1 then
        some (c9.1, (⟨c9.1.x1, wr (Int.tdiv (wr (c9.1.y1 + c9.1.y2)) 2), c9.1.x2, c9.1.y2⟩ : Box), (⟨c46.2.code, c46.2.pos, c46.2.seed⟩ : l00Src))
      else
        obind (t_spec_l20Near c46.2 c9.1) fun c58 =>
        some (c9.1, c58.1, (⟨c58.2.code, c58.2.pos, c58.2.seed⟩ : l00Src))

theorem ts_spec_l20Two (env : Nat → Contract) (he_spec_l00Src_one : env n_spec_l00Src_one = .gen (denFn Try.prog ev_spec_l00Src_one n_spec_l00Src_one)) (he_spec_l02Box : env n_spec_l02Box = .pure (T1 validBox)) (he_spec_l02DrawBox : env n_spec_l02DrawBox = .gen (denFn Try.prog ev_spec_l02DrawBox n_spec_l02DrawBox)) (he_spec_l20Near : env n_spec_l20Near = .gen (denFnM true Try.prog ev_spec_l20Near n_spec_l20Near)) {B : Base} {h : Heap} {o_ : Nat} (s_ : l00Src) (O : Hold B h [(AV.ptr o_ 1 0 0, .pt 3 [Sl.enc s_.code, iv s_.pos, AV.sc (.int .u64 s_.seed)])]) : Sim (denFnM true Try.prog env n_spec_l20Two [AV.ptr o_ 1 0 0] h) (t_spec_l20Two s_) (fun c p => p.1 = AV.tup [AV.agg [iv c.1.x1, iv c.1.y1, iv c.1.x2, iv c.1.y2], AV.agg [iv c.2.1.x1, iv c.2.1.y1, iv c.2.1.x2, iv c.2.1.y2]] ∧ Hold B p.2 [(AV.ptr o_ 1 0 0, .pt 3 [Sl.enc c.2.2.code, iv c.2.2.pos, AV.sc (.int .u64 c.2.2.seed)])]) := by
  rw [e_spec_l20Two]
  unfold t_spec_l20Two
  refine sim_box O (cs := [iv 0, iv 0, iv 0, iv 0]) (by first | rfl | simp) (fun o1 h2 O3 => ?_)
  replace O3 : Hold B h2 [(AV.ptr o_ 1 0 0, .pt 3 [Sl.enc s_.code, iv s_.pos, AV.sc (.int .u64 s_.seed)]), (AV.ptr o1 1 0 0, .pt 4 [iv 0, iv 0, iv 0, iv 0])] := O3
  refine sim_box O3 (cs := [iv 0, iv 0, iv 0, iv 0]) (by first | rfl | simp) (fun o5 h6 O7 => ?_)
  replace O7 : Hold B h6 [(AV.ptr o_ 1 0 0, .pt 3 [Sl.enc s_.code, iv s_.pos, AV.sc (.int .u64 s_.seed)]), (AV.ptr o1 1 0 0, .pt 4 [iv 0, iv 0, iv 0, iv 0]), (AV.ptr o5 1 0 0, .pt 4 [iv 0, iv 0, iv 0, iv 0])] := O7
  refine sim_gen he_spec_l02DrawBox (tg_spec_l02DrawBox s_ (O7.start (i := 0) rfl rfl)) (fun c9 v10 h11 hq12 => ?_)
  obtain ⟨e_v10, O13⟩ := hq12
  dsimp only at e_v10
  subst v10
  have O14 : Hold B h11 [(AV.ptr o_ 1 0 0, .pt 3 [Sl.enc c9.2.code, iv c9.2.pos, AV.sc (.int .u64 c9.2.seed)]), (AV.ptr o1 1 0 0, .pt 4 [iv 0, iv 0, iv 0, iv 0]), (AV.ptr o5 1 0 0, .pt 4 [iv 0, iv 0, iv 0, iv 0])] := O7.merge (i := 0) rfl rfl O13
  refine sim_box O14 (cs := [iv 0, iv 0, iv 0, iv 0]) (by first | rfl | simp) (fun o15 h16 O17 => ?_)
  replace O17 : Hold B h16 [(AV.ptr o_ 1 0 0, .pt 3 [Sl.enc c9.2.code, iv c9.2.pos, AV.sc (.int .u64 c9.2.seed)]), (AV.ptr o1 1 0 0, .pt 4 [iv 0, iv 0, iv 0, iv 0]), (AV.ptr o5 1 0 0, .pt 4 [iv 0, iv 0, iv 0, iv 0]), (AV.ptr o15 1 0 0, .pt 4 [iv 0, iv 0, iv 0, iv 0])] := O17
  refine sim_store O17 3 (cs' := [iv c9.1.x1, iv c9.1.y1, iv c9.1.x2, iv c9.1.y2]) rfl (by first | rfl | simp) (by simp) (by first | rfl | simp) (by first | rfl | simp [splice]) (fun h19 O20 => ?_)
  replace O20 : Hold B h19 [(AV.ptr o_ 1 0 0, .pt 3 [Sl.enc c9.2.code, iv c9.2.pos, AV.sc (.int .u64 c9.2.seed)]), (AV.ptr o1 1 0 0, .pt 4 [iv 0, iv 0, iv 0, iv 0]), (AV.ptr o5 1 0 0, .pt 4 [iv 0, iv 0, iv 0, iv 0]), (AV.ptr o15 1 0 0, .pt 4 [iv c9.1.x1, iv c9.1.y1, iv c9.1.x2, iv c9.1.y2])] := O20
  refine sim_gen he_spec_l00Src_one (tg_spec_l00Src_one c9.2 4 (O20.start (i := 0) rfl rfl)) (fun c21 v22 h23 hq24 => ?_)
  obtain ⟨e_v22, O25⟩ := hq24
  dsimp only at e_v22
  subst v22
  have O26 : Hold B h23 [(AV.ptr o_ 1 0 0, .pt 3 [Sl.enc c21.2.code, iv c21.2.pos, AV.sc (.int .u64 c21.2.seed)]), (AV.ptr o1 1 0 0, .pt 4 [iv 0, iv 0, iv 0, iv 0]), (AV.ptr o5 1 0 0, .pt 4 [iv 0, iv 0, iv 0, iv 0]), (AV.ptr o15 1 0 0, .pt 4 [iv c9.1.x1, iv c9.1.y1, iv c9.1.x2, iv c9.1.y2])] := O20.merge (i := 0) rfl rfl O25
  refine sim_cond (fun c27 => ?_) (fun c27 => ?_)
  · refine sim_let (v := AV.agg [iv c9.1.x1, iv c9.1.y1, iv c9.1.x2, iv c9.1.y2]) (O26.ld 3 rfl true 4 0) ?_
    refine sim_gen he_spec_l02DrawBox (tg_spec_l02DrawBox c21.2 (O26.start (i := 0) rfl rfl)) (fun c28 v29 h30 hq31 => ?_)
    obtain ⟨e_v29, O32⟩ := hq31
    dsimp only at e_v29
    subst v29
    have O33 : Hold B h30 [(AV.ptr o_ 1 0 0, .pt 3 [Sl.enc c28.2.code, iv c28.2.pos, AV.sc (.int .u64 c28.2.seed)]), (AV.ptr o1 1 0 0, .pt 4 [iv 0, iv 0, iv 0, iv 0]), (AV.ptr o5 1 0 0, .pt 4 [iv 0, iv 0, iv 0, iv 0]), (AV.ptr o15 1 0 0, .pt 4 [iv c9.1.x1, iv c9.1.y1, iv c9.1.x2, iv c9.1.y2])] := O26.merge (i := 0) rfl rfl O32
    refine sim_guardP O32.len ?_
    refine sim_store O33 1 (cs' := [iv c9.1.x1, iv c9.1.y1, iv c9.1.x2, iv c9.1.y2]) rfl (by first | rfl | simp) (by simp) (by first | rfl | simp) (by first | rfl | simp [splice]) (fun h34 O35 => ?_)
    replace O35 : Hold B h34 [(AV.ptr o_ 1 0 0, .pt 3 [Sl.enc c28.2.code, iv c28.2.pos, AV.sc (.int .u64 c28.2.seed)]), (AV.ptr o1 1 0 0, .pt 4 [iv c9.1.x1, iv c9.1.y1, iv c9.1.x2, iv c9.1.y2]), (AV.ptr o5 1 0 0, .pt 4 [iv 0, iv 0, iv 0, iv 0]), (AV.ptr o15 1 0 0, .pt 4 [iv c9.1.x1, iv c9.1.y1, iv c9.1.x2, iv c9.1.y2])] := O35
    refine sim_store O35 2 (cs' := [iv c28.1.x1, iv c28.1.y1, iv c28.1.x2, iv c28.1.y2]) rfl (by first | rfl | simp) (by simp) (by first | rfl | simp) (by first | rfl | simp [splice]) (fun h36 O37 => ?_)
    replace O37 : Hold B h36 [(AV.ptr o_ 1 0 0, .pt 3 [Sl.enc c28.2.code, iv c28.2.pos, AV.sc (.int .u64 c28.2.seed)]), (AV.ptr o1 1 0 0, .pt 4 [iv c9.1.x1, iv c9.1.y1, iv c9.1.x2, iv c9.1.y2]), (AV.ptr o5 1 0 0, .pt 4 [iv c28.1.x1, iv c28.1.y1, iv c28.1.x2, iv c28.1.y2]), (AV.ptr o15 1 0 0, .pt 4 [iv c9.1.x1, iv c9.1.y1, iv c9.1.x2, iv c9.1.y2])] := O37
    refine sim_guardP ⟨⟨(at_of (v := AV.agg [iv c9.1.x1, iv c9.1.y1, iv c9.1.x2, iv c9.1.y2]) (O26.ld 3 rfl true 4 0)), ⟨(at_of (v := AV.agg [iv c9.1.x1, iv c9.1.y1, iv c9.1.x2, iv c9.1.y2]) (O33.ld 3 rfl true 4 0)), ⟨(at_of (v := AV.agg [iv c9.1.x1, iv c9.1.y1, iv c9.1.x2, iv c9.1.y2]) (O35.ld 3 rfl true 4 0)), ⟨(at_of (v := AV.agg [iv c9.1.x1, iv c9.1.y1, iv c9.1.x2, iv c9.1.y2]) (O37.ld 3 rfl true 4 0)), trivial⟩⟩⟩⟩, trivial⟩ ?_
    refine sim_retL (resL_c (v := AV.agg [iv c9.1.x1, iv c9.1.y1, iv c9.1.x2, iv c9.1.y2]) (O37.ld 1 rfl true 4 0) (resL_c (v := AV.agg [iv c28.1.x1, iv c28.1.y1, iv c28.1.x2, iv c28.1.y2]) (O37.ld 2 rfl true 4 0) (resL_nil _))) ?_
    dsimp only [pack]
    have O38 : Hold B h36 [(AV.ptr o_ 1 0 0, .pt 3 [Sl.enc c28.2.code, iv c28.2.pos, AV.sc (.int .u64 c28.2.seed)])] := O37.sel [0] (by decide) rfl
    exact sim_ret ⟨rfl, O38⟩
  · refine sim_let (v := AV.agg [iv c9.1.x1, iv c9.1.y1, iv c9.1.x2, iv c9.1.y2]) (O26.ld 3 rfl true 4 0) ?_
    refine sim_callV1 he_spec_l02Box (snapD_nr _ c9.1 rfl) (fun c39 => ?_)
    refine sim_let (v := bv (!c39)) (aUn_not _) ?_
    refine sim_cond (fun c40 => ?_) (fun c40 => ?_)
    · refine sim_let (v := AV.agg [iv c9.1.x1, iv c9.1.y1, iv c9.1.x2, iv c9.1.y2]) (O26.ld 3 rfl true 4 0) ?_
      refine sim_let (v := AV.agg [iv c9.1.x1, iv c9.1.y1, iv c9.1.x2, iv c9.1.y2]) (O26.ld 3 rfl true 4 0) ?_
      refine sim_store O26 1 (cs' := [iv c9.1.x1, iv c9.1.y1, iv c9.1.x2, iv c9.1.y2]) rfl (by first | rfl | simp) (by simp) (by first | rfl | simp) (by first | rfl | simp [splice]) (fun h41 O42 => ?_)
      replace O42 : Hold B h41 [(AV.ptr o_ 1 0 0, .pt 3 [Sl.enc c21.2.code, iv c21.2.pos, AV.sc (.int .u64 c21.2.seed)]), (AV.ptr o1 1 0 0, .pt 4 [iv c9.1.x1, iv c9.1.y1, iv c9.1.x2, iv c9.1.y2]), (AV.ptr o5 1 0 0, .pt 4 [iv 0, iv 0, iv 0, iv 0]), (AV.ptr o15 1 0 0, .pt 4 [iv c9.1.x1, iv c9.1.y1, iv c9.1.x2, iv c9.1.y2])] := O42
      refine sim_store O42 2 (cs' := [iv c9.1.x1, iv c9.1.y1, iv c9.1.x2, iv c9.1.y2]) rfl (by first | rfl | simp) (by simp) (by first | rfl | simp) (by first | rfl | simp [splice]) (fun h43 O44 => ?_)
      replace O44 : Hold B h43 [(AV.ptr o_ 1 0 0, .pt 3 [Sl.enc c21.2.code, iv c21.2.pos, AV.sc (.int .u64 c21.2.seed)]), (AV.ptr o1 1 0 0, .pt 4 [iv c9.1.x1, iv c9.1.y1, iv c9.1.x2, iv c9.1.y2]), (AV.ptr o5 1 0 0, .pt 4 [iv c9.1.x1, iv c9.1.y1, iv c9.1.x2, iv c9.1.y2]), (AV.ptr o15 1 0 0, .pt 4 [iv c9.1.x1, iv c9.1.y1, iv c9.1.x2, iv c9.1.y2])] := O44
      refine sim_guardP ⟨⟨(at_of (v := AV.agg [iv c9.1.x1, iv c9.1.y1, iv c9.1.x2, iv c9.1.y2]) (O26.ld 3 rfl true 4 0)), ⟨(at_of (v := AV.agg [iv c9.1.x1, iv c9.1.y1, iv c9.1.x2, iv c9.1.y2]) (O42.ld 3 rfl true 4 0)), ⟨(at_of (v := AV.agg [iv c9.1.x1, iv c9.1.y1, iv c9.1.x2, iv c9.1.y2]) (O44.ld 3 rfl true 4 0)), trivial⟩⟩⟩, ⟨⟨(at_of (v := AV.agg [iv c9.1.x1, iv c9.1.y1, iv c9.1.x2, iv c9.1.y2]) (O26.ld 3 rfl true 4 0)), ⟨(at_of (v := AV.agg [iv c9.1.x1, iv c9.1.y1, iv c9.1.x2, iv c9.1.y2]) (O42.ld 3 rfl true 4 0)), ⟨(at_of (v := AV.agg [iv c9.1.x1, iv c9.1.y1, iv c9.1.x2, iv c9.1.y2]) (O44.ld 3 rfl true 4 0)), trivial⟩⟩⟩, trivial⟩⟩ ?_
      refine sim_retL (resL_c (v := AV.agg [iv c9.1.x1, iv c9.1.y1, iv c9.1.x2, iv c9.1.y2]) (O44.ld 1 rfl true 4 0) (resL_c (v := AV.agg [iv c9.1.x1, iv c9.1.y1, iv c9.1.x2, iv c9.1.y2]) (O44.ld 2 rfl true 4 0) (resL_nil _))) ?_
      dsimp only [pack]
      have O45 : Hold B h43 [(AV.ptr o_ 1 0 0, .pt 3 [Sl.enc c21.2.code, iv c21.2.pos, AV.sc (.int .u64 c21.2.seed)])] := O44.sel [0] (by decide) rfl
      exact sim_ret ⟨rfl, O45⟩
    · refine sim_gen he_spec_l00Src_one (tg_spec_l00Src_one c21.2 6 (O26.start (i := 0) rfl rfl)) (fun c46 v47 h48 hq49 => ?_)
      obtain ⟨e_v47, O50⟩ := hq49
      dsimp only at e_v47
      subst v47
      have O51 : Hold B h48 [(AV.ptr o_ 1 0 0, .pt 3 [Sl.enc c46.2.code, iv c46.2.pos, AV.sc (.int .u64 c46.2.seed)]), (AV.ptr o1 1 0 0, .pt 4 [iv 0, iv 0, iv 0, iv 0]), (AV.ptr o5 1 0 0, .pt 4 [iv 0, iv 0, iv 0, iv 0]), (AV.ptr o15 1 0 0, .pt 4 [iv c9.1.x1, iv c9.1.y1, iv c9.1.x2, iv c9.1.y2])] := O26.merge (i := 0) rfl rfl O50
      refine sim_cond (fun c52 => ?_) (fun c52 => ?_)
      · refine sim_let (v := AV.agg [iv c9.1.x1, iv c9.1.y1, iv c9.1.x2, iv c9.1.y2]) (O51.ld 3 rfl true 4 0) ?_
        refine sim_let (v := AV.ptr o15 1 0 0) rfl ?_
        refine sim_let (v := iv c9.1.x1) (O51.ld 3 rfl false 1 0) ?_
        refine sim_let (v := AV.ptr o15 1 0 1) rfl ?_
        refine sim_let (v := iv c9.1.y1) (O51.ld 3 rfl false 1 1) ?_
        refine sim_let (v := AV.ptr o15 1 0 3) rfl ?_
        refine sim_let (v := iv c9.1.y2) (O51.ld 3 rfl false 1 3) ?_
        refine sim_let (v := iv (wr (c9.1.y1 + c9.1.y2))) (aBin_add _ _) ?_
        refine sim_let (v := iv (wr (Int.tdiv (wr (c9.1.y1 + c9.1.y2)) 2))) (aBin_quo _ _ (by decide)) ?_
        refine sim_let (v := AV.ptr o15 1 0 2) rfl ?_
        refine sim_let (v := iv c9.1.x2) (O51.ld 3 rfl false 1 2) ?_
        refine sim_let (v := AV.ptr o15 1 0 3) rfl ?_
        refine sim_let (v := iv c9.1.y2) (O51.ld 3 rfl false 1 3) ?_
        refine sim_let (v := AV.agg [iv c9.1.x1, iv (wr (Int.tdiv (wr (c9.1.y1 + c9.1.y2)) 2)), iv c9.1.x2, iv c9.1.y2]) (by first | rfl | simp [aBuild, aFill, splice]) ?_
        refine sim_store O51 1 (cs' := [iv c9.1.x1, iv c9.1.y1, iv c9.1.x2, iv c9.1.y2]) rfl (by first | rfl | simp) (by simp) (by first | rfl | simp) (by first | rfl | simp [splice]) (fun h53 O54 => ?_)
        replace O54 : Hold B h53 [(AV.ptr o_ 1 0 0, .pt 3 [Sl.enc c46.2.code, iv c46.2.pos, AV.sc (.int .u64 c46.2.seed)]), (AV.ptr o1 1 0 0, .pt 4 [iv c9.1.x1, iv c9.1.y1, iv c9.1.x2, iv c9.1.y2]), (AV.ptr o5 1 0 0, .pt 4 [iv 0, iv 0, iv 0, iv 0]), (AV.ptr o15 1 0 0, .pt 4 [iv c9.1.x1, iv c9.1.y1, iv c9.1.x2, iv c9.1.y2])] := O54
        refine sim_store O54 2 (cs' := [iv c9.1.x1, iv (wr (Int.tdiv (wr (c9.1.y1 + c9.1.y2)) 2)), iv c9.1.x2, iv c9.1.y2]) rfl (by first | rfl | simp) (by simp) (by first | rfl | simp) (by first | rfl | simp [splice]) (fun h55 O56 => ?_)
        replace O56 : Hold B h55 [(AV.ptr o_ 1 0 0, .pt 3 [Sl.enc c46.2.code, iv c46.2.pos, AV.sc (.int .u64 c46.2.seed)]), (AV.ptr o1 1 0 0, .pt 4 [iv c9.1.x1, iv c9.1.y1, iv c9.1.x2, iv c9.1.y2]), (AV.ptr o5 1 0 0, .pt 4 [iv c9.1.x1, iv (wr (Int.tdiv (wr (c9.1.y1 + c9.1.y2)) 2)), iv c9.1.x2, iv c9.1.y2]), (AV.ptr o15 1 0 0, .pt 4 [iv c9.1.x1, iv c9.1.y1, iv c9.1.x2, iv c9.1.y2])] := O56
        refine sim_guardP ⟨⟨(at_of (v := AV.agg [iv c9.1.x1, iv c9.1.y1, iv c9.1.x2, iv c9.1.y2]) (O51.ld 3 rfl true 4 0)), ⟨(at_of (v := AV.agg [iv c9.1.x1, iv c9.1.y1, iv c9.1.x2, iv c9.1.y2]) (O54.ld 3 rfl true 4 0)), ⟨(at_of (v := AV.agg [iv c9.1.x1, iv c9.1.y1, iv c9.1.x2, iv c9.1.y2]) (O56.ld 3 rfl true 4 0)), trivial⟩⟩⟩, ⟨⟨(at_of (v := iv c9.1.x1) (O51.ld 3 rfl false 1 0)), ⟨(at_of (v := iv c9.1.x1) (O54.ld 3 rfl false 1 0)), ⟨(at_of (v := iv c9.1.x1) (O56.ld 3 rfl false 1 0)), trivial⟩⟩⟩, ⟨⟨(at_of (v := iv c9.1.y1) (O51.ld 3 rfl false 1 1)), ⟨(at_of (v := iv c9.1.y1) (O54.ld 3 rfl false 1 1)), ⟨(at_of (v := iv c9.1.y1) (O56.ld 3 rfl false 1 1)), trivial⟩⟩⟩, ⟨⟨(at_of (v := iv c9.1.y2) (O51.ld 3 rfl false 1 3)), ⟨(at_of (v := iv c9.1.y2) (O54.ld 3 rfl false 1 3)), ⟨(at_of (v := iv c9.1.y2) (O56.ld 3 rfl false 1 3)), trivial⟩⟩⟩, ⟨⟨(at_of (v := iv c9.1.x2) (O51.ld 3 rfl false 1 2)), ⟨(at_of (v := iv c9.1.x2) (O54.ld 3 rfl false 1 2)), ⟨(at_of (v := iv c9.1.x2) (O56.ld 3 rfl false 1 2)), trivial⟩⟩⟩, ⟨⟨(at_of (v := iv c9.1.y2) (O51.ld 3 rfl false 1 3)), ⟨(at_of (v := iv c9.1.y2) (O54.ld 3 rfl false 1 3)), ⟨(at_of (v := iv c9.1.y2) (O56.ld 3 rfl false 1 3)), trivial⟩⟩⟩, trivial⟩⟩⟩⟩⟩⟩ ?_
        refine sim_retL (resL_c (v := AV.agg [iv c9.1.x1, iv c9.1.y1, iv c9.1.x2, iv c9.1.y2]) (O56.ld 1 rfl true 4 0) (resL_c (v := AV.agg [iv c9.1.x1, iv (wr (Int.tdiv (wr (c9.1.y1 + c9.1.y2)) 2)), iv c9.1.x2, iv c9.1.y2]) (O56.ld 2 rfl true 4 0) (resL_nil _))) ?_
        dsimp only [pack]
        have O57 : Hold B h55 [(AV.ptr o_ 1 0 0, .pt 3 [Sl.enc c46.2.code, iv c46.2.pos, AV.sc (.int .u64 c46.2.seed)])] := O56.sel [0] (by decide) rfl
        exact sim_ret ⟨rfl, O57⟩
      · refine sim_let (v := AV.agg [iv c9.1.x1, iv c9.1.y1, iv c9.1.x2, iv c9.1.y2]) (O51.ld 3 rfl true 4 0) ?_
        refine sim_let (v := AV.agg [iv c9.1.x1, iv c9.1.y1, iv c9.1.x2, iv c9.1.y2]) (O51.ld 3 rfl true 4 0) ?_
        refine sim_gen he_spec_l20Near (tg_spec_l20Near c46.2 c9.1 (O51.start (i := 0) rfl rfl)) (fun c58 v59 h60 hq61 => ?_)
        obtain ⟨e_v59, O62⟩ := hq61
        dsimp only at e_v59
        subst v59
        have O63 : Hold B h60 [(AV.ptr o_ 1 0 0, .pt 3 [Sl.enc c58.2.code, iv c58.2.pos, AV.sc (.int .u64 c58.2.seed)]), (AV.ptr o1 1 0 0, .pt 4 [iv 0, iv 0, iv 0, iv 0]), (AV.ptr o5 1 0 0, .pt 4 [iv 0, iv 0, iv 0, iv 0]), (AV.ptr o15 1 0 0, .pt 4 [iv c9.1.x1, iv c9.1.y1, iv c9.1.x2, iv c9.1.y2])] := O51.merge (i := 0) rfl rfl O62
        refine sim_guardP O62.len ?_
        refine sim_store O63 1 (cs' := [iv c9.1.x1, iv c9.1.y1, iv c9.1.x2, iv c9.1.y2]) rfl (by first | rfl | simp) (by simp) (by first | rfl | simp) (by first | rfl | simp [splice]) (fun h64 O65 => ?_)
        replace O65 : Hold B h64 [(AV.ptr o_ 1 0 0, .pt 3 [Sl.enc c58.2.code, iv c58.2.pos, AV.sc (.int .u64 c58.2.seed)]), (AV.ptr o1 1 0 0, .pt 4 [iv c9.1.x1, iv c9.1.y1, iv c9.1.x2, iv c9.1.y2]), (AV.ptr o5 1 0 0, .pt 4 [iv 0, iv 0, iv 0, iv 0]), (AV.ptr o15 1 0 0, .pt 4 [iv c9.1.x1, iv c9.1.y1, iv c9.1.x2, iv c9.1.y2])] := O65
        refine sim_store O65 2 (cs' := [iv c58.1.x1, iv c58.1.y1, iv c58.1.x2, iv c58.1.y2]) rfl (by first | rfl | simp) (by simp) (by first | rfl | simp) (by first | rfl | simp [splice]) (fun h66 O67 => ?_)
        replace O67 : Hold B h66 [(AV.ptr o_ 1 0 0, .pt 3 [Sl.enc c58.2.code, iv c58.2.pos, AV.sc (.int .u64 c58.2.seed)]), (AV.ptr o1 1 0 0, .pt 4 [iv c9.1.x1, iv c9.1.y1, iv c9.1.x2, iv c9.1.y2]), (AV.ptr o5 1 0 0, .pt 4 [iv c58.1.x1, iv c58.1.y1, iv c58.1.x2, iv c58.1.y2]), (AV.ptr o15 1 0 0, .pt 4 [iv c9.1.x1, iv c9.1.y1, iv c9.1.x2, iv c9.1.y2])] := O67
        refine sim_guardP ⟨⟨(at_of (v := AV.agg [iv c9.1.x1, iv c9.1.y1, iv c9.1.x2, iv c9.1.y2]) (O51.ld 3 rfl true 4 0)), ⟨(at_of (v := AV.agg [iv c9.1.x1, iv c9.1.y1, iv c9.1.x2, iv c9.1.y2]) (O63.ld 3 rfl true 4 0)), ⟨(at_of (v := AV.agg [iv c9.1.x1, iv c9.1.y1, iv c9.1.x2, iv c9.1.y2]) (O65.ld 3 rfl true 4 0)), ⟨(at_of (v := AV.agg [iv c9.1.x1, iv c9.1.y1, iv c9.1.x2, iv c9.1.y2]) (O67.ld 3 rfl true 4 0)), trivial⟩⟩⟩⟩, ⟨⟨(at_of (v := AV.agg [iv c9.1.x1, iv c9.1.y1, iv c9.1.x2, iv c9.1.y2]) (O51.ld 3 rfl true 4 0)), ⟨(at_of (v := AV.agg [iv c9.1.x1, iv c9.1.y1, iv c9.1.x2, iv c9.1.y2]) (O63.ld 3 rfl true 4 0)), ⟨(at_of (v := AV.agg [iv c9.1.x1, iv c9.1.y1, iv c9.1.x2, iv c9.1.y2]) (O65.ld 3 rfl true 4 0)), ⟨(at_of (v := AV.agg [iv c9.1.x1, iv c9.1.y1, iv c9.1.x2, iv c9.1.y2]) (O67.ld 3 rfl true 4 0)), trivial⟩⟩⟩⟩, trivial⟩⟩ ?_
        refine sim_retL (resL_c (v := AV.agg [iv c9.1.x1, iv c9.1.y1, iv c9.1.x2, iv c9.1.y2]) (O67.ld 1 rfl true 4 0) (resL_c (v := AV.agg [iv c58.1.x1, iv c58.1.y1, iv c58.1.x2, iv c58.1.y2]) (O67.ld 2 rfl true 4 0) (resL_nil _))) ?_
        dsimp only [pack]
        have O68 : Hold B h66 [(AV.ptr o_ 1 0 0, .pt 3 [Sl.enc c58.2.code, iv c58.2.pos, AV.sc (.int .u64 c58.2.seed)])] := O67.sel [0] (by decide) rfl
        exact sim_ret ⟨rfl, O68⟩
noncomputable def ev_spec_l20Two : Nat → Contract := envL [(n_spec_l00Src_one, .gen (denFn Try.prog ev_spec_l00Src_one n_spec_l00Src_one)), (n_spec_l02Box, .pure (T1 validBox)), (n_spec_l02DrawBox, .gen (denFn Try.prog ev_spec_l02DrawBox n_spec_l02DrawBox)), (n_spec_l20Near, .gen (denFnM true Try.prog ev_spec_l20Near n_spec_l20Near))]
theorem eo_spec_l20Two : EnvOK Try.prog ev_spec_l20Two := (EconsG (gen_of_den eo_spec_l00Src_one mixed hb_spec_l00Src_one) (Econs ok_spec_l02Box (EconsG (gen_of_den eo_spec_l02DrawBox mixed hb_spec_l02DrawBox) (EconsG (gen_of_denM (W := true) eo_spec_l20Near mixed hb_spec_l20Near) E0))))
theorem tg_spec_l20Two {B : Base} {h : Heap} {o_ : Nat} (s_ : l00Src) (O : Hold B h [(AV.ptr o_ 1 0 0, .pt 3 [Sl.enc s_.code, iv s_.pos, AV.sc (.int .u64 s_.seed)])]) : Sim (denFnM true Try.prog ev_spec_l20Two n_spec_l20Two [AV.ptr o_ 1 0 0] h) (t_spec_l20Two s_) (fun c p => p.1 = AV.tup [AV.agg [iv c.1.x1, iv c.1.y1, iv c.1.x2, iv c.1.y2], AV.agg [iv c.2.1.x1, iv c.2.1.y1, iv c.2.1.x2, iv c.2.1.y2]] ∧ Hold B p.2 [(AV.ptr o_ 1 0 0, .pt 3 [Sl.enc c.2.2.code, iv c.2.2.pos, AV.sc (.int .u64 c.2.2.seed)])]) := ts_spec_l20Two ev_spec_l20Two (by simp [ev_spec_l20Two, envL]) (by simp [ev_spec_l20Two, envL]) (by simp [ev_spec_l20Two, envL]) (by simp [ev_spec_l20Two, envL]) s_  O

def t_spec_DrawRelationOf (code_ : Sl UInt8) : Option (Box × Box) :=
  obind (t_spec_l20Two (⟨code_, 0, 0⟩ : l00Src)) fun c13 =>
  some (c13.1, c13.2.1)

theorem ts_spec_DrawRelationOf (env : Nat → Contract) (he_spec_l00From : env n_spec_l00From = .pure (C1 fromA (fun q : Sl UInt8 => some q))) (he_spec_l20Two : env n_spec_l20Two = .gen (denFnM true Try.prog ev_spec_l20Two n_spec_l20Two)) (code_ : Sl UInt8) : Sim (denFn Try.prog env n_spec_DrawRelationOf [Sl.enc code_] []) (t_spec_DrawRelationOf code_) fun c p => release p.2 depth p.1 = some ((fun c : Box × Box => AV.tup [enc c.1, enc c.2]) c) := by
  have O := Hold.nil []
  generalize hB : (⟨[], []⟩ : Base) = B at O
  clear hB
  rw [e_spec_DrawRelationOf]
  unfold t_spec_DrawRelationOf
  refine sim_box O (cs := [iv 0, iv 0, iv 0, iv 0]) (by first | rfl | simp) (fun o1 h2 O3 => ?_)
  replace O3 : Hold B h2 [(AV.ptr o1 1 0 0, .pt 4 [iv 0, iv 0, iv 0, iv 0])] := O3
  refine sim_box O3 (cs := [iv 0, iv 0, iv 0, iv 0]) (by first | rfl | simp) (fun o5 h6 O7 => ?_)
  replace O7 : Hold B h6 [(AV.ptr o1 1 0 0, .pt 4 [iv 0, iv 0, iv 0, iv 0]), (AV.ptr o5 1 0 0, .pt 4 [iv 0, iv 0, iv 0, iv 0])] := O7
  refine sim_src O7 he_spec_l00From (snapD_enc _ _) (by first | rfl | exact noRef_enc _) (fun o9 h10 O11 => ?_)
  replace O11 : Hold B h10 [(AV.ptr o1 1 0 0, .pt 4 [iv 0, iv 0, iv 0, iv 0]), (AV.ptr o5 1 0 0, .pt 4 [iv 0, iv 0, iv 0, iv 0]), (AV.ptr o9 1 0 0, .pt 3 [Sl.enc code_, iv 0, AV.sc (.int .u64 0)])] := O11
  refine sim_gen he_spec_l20Two (tg_spec_l20Two (⟨code_, 0, 0⟩ : l00Src) (O11.start (i := 2) rfl rfl)) (fun c13 v14 h15 hq16 => ?_)
  obtain ⟨e_v14, O17⟩ := hq16
  dsimp only at e_v14
  subst v14
  have O18 : Hold B h15 [(AV.ptr o1 1 0 0, .pt 4 [iv 0, iv 0, iv 0, iv 0]), (AV.ptr o5 1 0 0, .pt 4 [iv 0, iv 0, iv 0, iv 0]), (AV.ptr o9 1 0 0, .pt 3 [Sl.enc c13.2.2.code, iv c13.2.2.pos, AV.sc (.int .u64 c13.2.2.seed)])] := O11.merge (i := 2) rfl rfl O17
  refine sim_let (v := AV.agg [iv c13.1.x1, iv c13.1.y1, iv c13.1.x2, iv c13.1.y2]) rfl ?_
  refine sim_let (v := AV.agg [iv c13.2.1.x1, iv c13.2.1.y1, iv c13.2.1.x2, iv c13.2.1.y2]) rfl ?_
  refine sim_store O18 0 (cs' := [iv c13.1.x1, iv c13.1.y1, iv c13.1.x2, iv c13.1.y2]) rfl (by first | rfl | simp) (by simp) (by first | rfl | simp) (by first | rfl | simp [splice]) (fun h19 O20 => ?_)
  replace O20 : Hold B h19 [(AV.ptr o1 1 0 0, .pt 4 [iv c13.1.x1, iv c13.1.y1, iv c13.1.x2, iv c13.1.y2]), (AV.ptr o5 1 0 0, .pt 4 [iv 0, iv 0, iv 0, iv 0]), (AV.ptr o9 1 0 0, .pt 3 [Sl.enc c13.2.2.code, iv c13.2.2.pos, AV.sc (.int .u64 c13.2.2.seed)])] := O20
  refine sim_store O20 1 (cs' := [iv c13.2.1.x1, iv c13.2.1.y1, iv c13.2.1.x2, iv c13.2.1.y2]) rfl (by first | rfl | simp) (by simp) (by first | rfl | simp) (by first | rfl | simp [splice]) (fun h21 O22 => ?_)
  replace O22 : Hold B h21 [(AV.ptr o1 1 0 0, .pt 4 [iv c13.1.x1, iv c13.1.y1, iv c13.1.x2, iv c13.1.y2]), (AV.ptr o5 1 0 0, .pt 4 [iv c13.2.1.x1, iv c13.2.1.y1, iv c13.2.1.x2, iv c13.2.1.y2]), (AV.ptr o9 1 0 0, .pt 3 [Sl.enc c13.2.2.code, iv c13.2.2.pos, AV.sc (.int .u64 c13.2.2.seed)])] := O22
  refine sim_retL (resL_c (v := AV.agg [iv c13.1.x1, iv c13.1.y1, iv c13.1.x2, iv c13.1.y2]) (O22.ld 0 rfl true 4 0) (resL_c (v := AV.agg [iv c13.2.1.x1, iv c13.2.1.y1, iv c13.2.1.x2, iv c13.2.1.y2]) (O22.ld 1 rfl true 4 0) (resL_nil _))) ?_
  dsimp only [pack]
  exact sim_ret (release_plain (by rfl) _)
theorem tt_spec_DrawRelationOf : PureOK Try.prog n_spec_DrawRelationOf (C1 (fun c : Box × Box => AV.tup [enc c.1, enc c.2]) t_spec_DrawRelationOf) := pureC1 (Econs tt_spec_l00From (EconsG (gen_of_denM (W := true) eo_spec_l20Two mixed hb_spec_l20Two) E0)) mixed hb_spec_DrawRelationOf fun code_ => ts_spec_DrawRelationOf _ (by simp [envL]) (by simp [envL]) code_

def s0_laws_f6roll (code_ : Sl UInt8) : ((Sl UInt8) × Int × Int × Int) → Option (Sum ((Sl UInt8) × Int × Int × Int) ((Sl UInt8) × Int × Int)) := fun (w5, w6, w7, w10) =>
  bif decide (w10 < (((code_.getD []).length : Nat) : Int)) then
    obind (getI (code_.getD []) w10) fun a18 =>
    some (.inl (w5, w6, IntKind.u64.wrap ((IntKind.u64.wrap ((IntKind.u64.wrap (w7 * 1099511628211)) + (a18.toNat : Int))) + 3), wr (w10 + 1)))
  else
    some (.inr (w5, w6, w7))
def t_laws_f6roll (code_ : Sl UInt8) (seed_ : Wd) : Option f6dice :=
  obind (loopT (s0_laws_f6roll code_) (code_, 0, IntKind.u64.wrap ((IntKind.u64.wrap (seed_.v * 7919)) + (IntKind.u64.wrap (((code_.getD []).length : Nat) : Int))), 0)) fun (q13, q14, q15) =>
  some (⟨q13, q14, q15⟩ : f6dice)

theorem tl0_laws_f6roll (env : Nat → Contract) {B : Base}  (code_ : Sl UInt8) (seed_ : Wd) (o1 : Nat)  {st : (Sl UInt8) × Int × Int × Int} {tm : TM} {h : Heap} (R : (fun (st : (Sl UInt8) × Int × Int × Int) tm h8 => match st with | (w5, w6, w7, w10) => tm = [Sl.enc code_, AV.sc (.int .u64 seed_.v), und, und, (AV.sc (.pointer none)), AV.ptr o1 1 0 0, iv w10, Sl.enc code_, AV.sc (.int .u64 seed_.v), AV.sc (.int .u64 (IntKind.u64.wrap (seed_.v * 7919))), Sl.enc code_, iv (((code_.getD []).length : Nat) : Int), AV.sc (.int .u64 (IntKind.u64.wrap (((code_.getD []).length : Nat) : Int))), AV.sc (.int .u64 (IntKind.u64.wrap ((IntKind.u64.wrap (seed_.v * 7919)) + (IntKind.u64.wrap (((code_.getD []).length : Nat) : Int))))), AV.agg [Sl.enc code_, iv 0, AV.sc (.int .u64 (IntKind.u64.wrap ((IntKind.u64.wrap (seed_.v * 7919)) + (IntKind.u64.wrap (((code_.getD []).length : Nat) : Int)))))], AV.ptr o1 1 0 0, AV.top, AV.top, AV.top, AV.top, AV.top, AV.top, AV.top, AV.top, AV.top, AV.top, AV.top, AV.top, AV.top, AV.top, AV.top, AV.top, AV.top, AV.top, AV.top, AV.top, AV.top, und] ∧ Hold B h8 [(AV.ptr o1 1 0 0, .pt 3 [Sl.enc w5, iv w6, AV.sc (.int .u64 w7)])]) st tm h) : Sim (loopP hm0_laws_f6roll xm0_laws_f6roll (lb0_laws_f6roll env) tm h) (loopT (s0_laws_f6roll code_) st) (fun (q : (Sl UInt8) × Int × Int) (r : Res) => match q with | (q13, q14, q15) => ∃ (q16 : Int) (h11 : Heap), r = (.exit 0, [Sl.enc code_, AV.sc (.int .u64 seed_.v), und, und, (AV.sc (.pointer none)), AV.ptr o1 1 0 0, iv q16, Sl.enc code_, AV.sc (.int .u64 seed_.v), AV.sc (.int .u64 (IntKind.u64.wrap (seed_.v * 7919))), Sl.enc code_, iv (((code_.getD []).length : Nat) : Int), AV.sc (.int .u64 (IntKind.u64.wrap (((code_.getD []).length : Nat) : Int))), AV.sc (.int .u64 (IntKind.u64.wrap ((IntKind.u64.wrap (seed_.v * 7919)) + (IntKind.u64.wrap (((code_.getD []).length : Nat) : Int))))), AV.agg [Sl.enc code_, iv 0, AV.sc (.int .u64 (IntKind.u64.wrap ((IntKind.u64.wrap (seed_.v * 7919)) + (IntKind.u64.wrap (((code_.getD []).length : Nat) : Int)))))], AV.ptr o1 1 0 0, AV.top, AV.top, AV.top, AV.top, AV.top, AV.top, AV.top, AV.top, AV.top, AV.top, AV.top, AV.top, AV.top, AV.top, AV.top, AV.top, AV.top, AV.top, AV.top, AV.top, AV.top, und], h11) ∧ Hold B h11 [(AV.ptr o1 1 0 0, .pt 3 [Sl.enc q13, iv q14, AV.sc (.int .u64 q15)])]) := by
  refine loop_sim (Rel := fun (st : (Sl UInt8) × Int × Int × Int) tm h8 => match st with | (w5, w6, w7, w10) => tm = [Sl.enc code_, AV.sc (.int .u64 seed_.v), und, und, (AV.sc (.pointer none)), AV.ptr o1 1 0 0, iv w10, Sl.enc code_, AV.sc (.int .u64 seed_.v), AV.sc (.int .u64 (IntKind.u64.wrap (seed_.v * 7919))), Sl.enc code_, iv (((code_.getD []).length : Nat) : Int), AV.sc (.int .u64 (IntKind.u64.wrap (((code_.getD []).length : Nat) : Int))), AV.sc (.int .u64 (IntKind.u64.wrap ((IntKind.u64.wrap (seed_.v * 7919)) + (IntKind.u64.wrap (((code_.getD []).length : Nat) : Int))))), AV.agg [Sl.enc code_, iv 0, AV.sc (.int .u64 (IntKind.u64.wrap ((IntKind.u64.wrap (seed_.v * 7919)) + (IntKind.u64.wrap (((code_.getD []).length : Nat) : Int)))))], AV.ptr o1 1 0 0, AV.top, AV.top, AV.top, AV.top, AV.top, AV.top, AV.top, AV.top, AV.top, AV.top, AV.top, AV.top, AV.top, AV.top, AV.top, AV.top, AV.top, AV.top, AV.top, AV.top, AV.top, und] ∧ Hold B h8 [(AV.ptr o1 1 0 0, .pt 3 [Sl.enc w5, iv w6, AV.sc (.int .u64 w7)])]) (fun st tm h8 R => ?_) R
  obtain ⟨w5, w6, w7, w10⟩ := st
  obtain ⟨rfl, O9⟩ := R
  rw [e_lb0_laws_f6roll]
  unfold s0_laws_f6roll
  dsimp only
  refine sim_let (v := iv (((code_.getD []).length : Nat) : Int)) (Tab.enc h8 code_).len ?_
  refine sim_let (v := bv (decide (w10 < (((code_.getD []).length : Nat) : Int)))) (aBin_lss _ _) ?_
  refine sim_cond (fun c17 => ?_) (fun c17 => ?_)
  · refine sim_let (v := AV.ptr o1 1 0 0) rfl ?_
    refine sim_let (v := AV.ptr o1 1 0 2) rfl ?_
    refine sim_let (v := AV.sc (.int .u64 w7)) (O9.ld 0 rfl false 1 2) ?_
    refine sim_let (v := AV.sc (.int .u64 (IntKind.u64.wrap (w7 * 1099511628211)))) rfl ?_
    refine sim_get (Tab.enc h8 code_) (fun m19 a18 hi20 hm21 => ?_)
    refine sim_let (v := bt a18) ((Tab.enc h8 code_).ld hm21 false 1 0) ?_
    refine sim_let (v := AV.sc (.int .u64 (a18.toNat : Int))) (conv_byteU _) ?_
    refine sim_let (v := AV.sc (.int .u64 (IntKind.u64.wrap ((IntKind.u64.wrap (w7 * 1099511628211)) + (a18.toNat : Int))))) rfl ?_
    refine sim_let (v := AV.sc (.int .u64 (IntKind.u64.wrap ((IntKind.u64.wrap ((IntKind.u64.wrap (w7 * 1099511628211)) + (a18.toNat : Int))) + 3)))) rfl ?_
    refine sim_let (v := AV.ptr o1 1 0 0) rfl ?_
    refine sim_let (v := AV.ptr o1 1 0 2) rfl ?_
    refine sim_store O9 0 (cs' := [Sl.enc w5, iv w6, AV.sc (.int .u64 (IntKind.u64.wrap ((IntKind.u64.wrap ((IntKind.u64.wrap (w7 * 1099511628211)) + (a18.toNat : Int))) + 3)))]) rfl (by first | rfl | simp) (by simp) (by first | rfl | simp) (by first | rfl | simp [splice]) (fun h22 O23 => ?_)
    replace O23 : Hold B h22 [(AV.ptr o1 1 0 0, .pt 3 [Sl.enc w5, iv w6, AV.sc (.int .u64 (IntKind.u64.wrap ((IntKind.u64.wrap ((IntKind.u64.wrap (w7 * 1099511628211)) + (a18.toNat : Int))) + 3)))])] := O23
    refine sim_let (v := iv (wr (w10 + 1))) (aBin_add _ _) ?_
    exact sim_ret ⟨rfl, rfl, O23⟩
  · exact sim_ret ⟨nofun, _, _, rfl, O9⟩
theorem ts_laws_f6roll (env : Nat → Contract)  (code_ : Sl UInt8) (seed_ : Wd) : Sim (denFn Try.prog env n_laws_f6roll [Sl.enc code_, AV.sc (.int .u64 seed_.v)] []) (t_laws_f6roll code_ seed_) fun c p => release p.2 depth p.1 = some ((fun c : f6dice => AV.np 3 [[Sl.enc c.b, iv c.i, AV.sc (.int .u64 c.h)]] 0 0) c) := by
  have O := Hold.nil []
  generalize hB : (⟨[], []⟩ : Base) = B at O
  clear hB
  rw [e_laws_f6roll]
  unfold t_laws_f6roll
  refine sim_let (v := AV.sc (.int .u64 (IntKind.u64.wrap (seed_.v * 7919)))) rfl ?_
  refine sim_let (v := iv (((code_.getD []).length : Nat) : Int)) (Tab.enc [] code_).len ?_
  refine sim_let (v := AV.sc (.int .u64 (IntKind.u64.wrap (((code_.getD []).length : Nat) : Int)))) rfl ?_
  refine sim_let (v := AV.sc (.int .u64 (IntKind.u64.wrap ((IntKind.u64.wrap (seed_.v * 7919)) + (IntKind.u64.wrap (((code_.getD []).length : Nat) : Int)))))) rfl ?_
  refine sim_let (v := AV.agg [Sl.enc code_, iv 0, AV.sc (.int .u64 (IntKind.u64.wrap ((IntKind.u64.wrap (seed_.v * 7919)) + (IntKind.u64.wrap (((code_.getD []).length : Nat) : Int)))))]) (by first | rfl | simp [aBuild, aFill, splice]) ?_
  refine sim_box O (cs := [Sl.enc code_, iv 0, AV.sc (.int .u64 (IntKind.u64.wrap ((IntKind.u64.wrap (seed_.v * 7919)) + (IntKind.u64.wrap (((code_.getD []).length : Nat) : Int)))))]) (by first | rfl | simp) (fun o1 h2 O3 => ?_)
  replace O3 : Hold B h2 [(AV.ptr o1 1 0 0, .pt 3 [Sl.enc code_, iv 0, AV.sc (.int .u64 (IntKind.u64.wrap ((IntKind.u64.wrap (seed_.v * 7919)) + (IntKind.u64.wrap (((code_.getD []).length : Nat) : Int)))))])] := O3
  refine sim_bind ((tl0_laws_f6roll env code_ seed_ o1) ⟨rfl, O3⟩) (fun qq27 r hq => ?_)
  obtain ⟨q13, q14, q15⟩ := qq27
  obtain ⟨q16, h11, rfl, O12⟩ := hq
  rw [e_lk0x0_laws_f6roll]
  exact sim_ret (O12.relP 0 rfl (by simp only [List.all_cons, List.all_nil, nr_sl, Bool.and_true]; rfl))
theorem tt_laws_f6roll : PureOK Try.prog n_laws_f6roll (C2 (fun c : f6dice => AV.np 3 [[Sl.enc c.b, iv c.i, AV.sc (.int .u64 c.h)]] 0 0) t_laws_f6roll) := pureC2 E0 mixed hb_laws_f6roll fun code_ seed_ => ts_laws_f6roll _  code_ seed_

def t_laws_f6dice_below (d_ : f6dice) (n_ : Int) : Option (Int × f6dice) :=
  bif decide (d_.i < (((d_.b.getD []).length : Nat) : Int)) then
    obind (getI (d_.b.getD []) d_.i) fun a4 =>
    obind (remI (wr ((wr (IntKind.u64.wrap ((BitVec.ofInt 64 (Int.fdiv (IntKind.u64.wrap ((IntKind.u64.wrap (d_.h * 6364136223846793005)) + 1442695040888963407)) (2 ^ 33)) &&& BitVec.ofInt 64 16777215).toNat : Nat))) + (a4.toNat : Int))) n_) fun q10 =>
    some (q10, (⟨d_.b, wr (d_.i + 1), IntKind.u64.wrap ((IntKind.u64.wrap (d_.h * 6364136223846793005)) + 1442695040888963407)⟩ : f6dice))
  else
    obind (remI (wr (IntKind.u64.wrap ((BitVec.ofInt 64 (Int.fdiv (IntKind.u64.wrap ((IntKind.u64.wrap (d_.h * 6364136223846793005)) + 1442695040888963407)) (2 ^ 33)) &&& BitVec.ofInt 64 16777215).toNat : Nat))) n_) fun q12 =>
    some (q12, (⟨d_.b, d_.i, IntKind.u64.wrap ((IntKind.u64.wrap (d_.h * 6364136223846793005)) + 1442695040888963407)⟩ : f6dice))

theorem ts_laws_f6dice_below (env : Nat → Contract)  {B : Base} {h : Heap} {o_ : Nat} (d_ : f6dice) (n_ : Int) (O : Hold B h [(AV.ptr o_ 1 0 0, .pt 3 [Sl.enc d_.b, iv d_.i, AV.sc (.int .u64 d_.h)])]) : Sim (denFn Try.prog env n_laws_f6dice_below [AV.ptr o_ 1 0 0, iv n_] h) (t_laws_f6dice_below d_ n_) (fun c p => p.1 = iv c.1 ∧ Hold B p.2 [(AV.ptr o_ 1 0 0, .pt 3 [Sl.enc c.2.b, iv c.2.i, AV.sc (.int .u64 c.2.h)])]) := by
  rw [e_laws_f6dice_below]
  unfold t_laws_f6dice_below
  refine sim_let (v := AV.ptr o_ 1 0 0) rfl ?_
  refine sim_let (v := AV.ptr o_ 1 0 2) rfl ?_
  refine sim_let (v := AV.sc (.int .u64 d_.h)) (O.ld 0 rfl false 1 2) ?_
  refine sim_let (v := AV.sc (.int .u64 (IntKind.u64.wrap (d_.h * 6364136223846793005)))) rfl ?_
  refine sim_let (v := AV.sc (.int .u64 (IntKind.u64.wrap ((IntKind.u64.wrap (d_.h * 6364136223846793005)) + 1442695040888963407)))) rfl ?_
  refine sim_let (v := AV.ptr o_ 1 0 0) rfl ?_
  refine sim_let (v := AV.ptr o_ 1 0 2) rfl ?_
  refine sim_store O 0 (cs' := [Sl.enc d_.b, iv d_.i, AV.sc (.int .u64 (IntKind.u64.wrap ((IntKind.u64.wrap (d_.h * 6364136223846793005)) + 1442695040888963407)))]) rfl (by first | rfl | simp) (by simp) (by first | rfl | simp) (by first | rfl | simp [splice]) (fun h1 O2 => ?_)
  replace O2 : Hold B h1 [(AV.ptr o_ 1 0 0, .pt 3 [Sl.enc d_.b, iv d_.i, AV.sc (.int .u64 (IntKind.u64.wrap ((IntKind.u64.wrap (d_.h * 6364136223846793005)) + 1442695040888963407)))])] := O2
  refine sim_let (v := AV.ptr o_ 1 0 0) rfl ?_
  refine sim_let (v := AV.ptr o_ 1 0 2) rfl ?_
  refine sim_let (v := AV.sc (.int .u64 (IntKind.u64.wrap ((IntKind.u64.wrap (d_.h * 6364136223846793005)) + 1442695040888963407)))) (O2.ld 0 rfl false 1 2) ?_
  refine sim_let (v := AV.sc (.int .u64 (Int.fdiv (IntKind.u64.wrap ((IntKind.u64.wrap (d_.h * 6364136223846793005)) + 1442695040888963407)) (2 ^ 33)))) rfl ?_
  refine sim_let (v := AV.sc (.int .u64 (IntKind.u64.wrap ((BitVec.ofInt 64 (Int.fdiv (IntKind.u64.wrap ((IntKind.u64.wrap (d_.h * 6364136223846793005)) + 1442695040888963407)) (2 ^ 33)) &&& BitVec.ofInt 64 16777215).toNat : Nat)))) rfl ?_
  refine sim_let (v := iv (wr (IntKind.u64.wrap ((BitVec.ofInt 64 (Int.fdiv (IntKind.u64.wrap ((IntKind.u64.wrap (d_.h * 6364136223846793005)) + 1442695040888963407)) (2 ^ 33)) &&& BitVec.ofInt 64 16777215).toNat : Nat)))) rfl ?_
  refine sim_let (v := AV.ptr o_ 1 0 0) rfl ?_
  refine sim_let (v := AV.ptr o_ 1 0 1) rfl ?_
  refine sim_let (v := iv d_.i) (O2.ld 0 rfl false 1 1) ?_
  refine sim_let (v := AV.ptr o_ 1 0 0) rfl ?_
  refine sim_let (v := AV.ptr o_ 1 0 0) rfl ?_
  refine sim_let (v := Sl.enc d_.b) (O2.ld 0 rfl false 1 0) ?_
  refine sim_let (v := iv (((d_.b.getD []).length : Nat) : Int)) (Tab.enc h1 d_.b).len ?_
  refine sim_let (v := bv (decide (d_.i < (((d_.b.getD []).length : Nat) : Int)))) (aBin_lss _ _) ?_
  refine sim_cond (fun c3 => ?_) (fun c3 => ?_)
  · refine sim_let (v := AV.ptr o_ 1 0 0) rfl ?_
    refine sim_let (v := AV.ptr o_ 1 0 0) rfl ?_
    refine sim_let (v := Sl.enc d_.b) (O2.ld 0 rfl false 1 0) ?_
    refine sim_let (v := AV.ptr o_ 1 0 0) rfl ?_
    refine sim_let (v := AV.ptr o_ 1 0 1) rfl ?_
    refine sim_let (v := iv d_.i) (O2.ld 0 rfl false 1 1) ?_
    refine sim_get (Tab.enc h1 d_.b) (fun m5 a4 hi6 hm7 => ?_)
    refine sim_let (v := bt a4) ((Tab.enc h1 d_.b).ld hm7 false 1 0) ?_
    refine sim_let (v := iv (a4.toNat : Int)) (conv_byte _) ?_
    refine sim_let (v := iv (wr ((wr (IntKind.u64.wrap ((BitVec.ofInt 64 (Int.fdiv (IntKind.u64.wrap ((IntKind.u64.wrap (d_.h * 6364136223846793005)) + 1442695040888963407)) (2 ^ 33)) &&& BitVec.ofInt 64 16777215).toNat : Nat))) + (a4.toNat : Int)))) (aBin_add _ _) ?_
    refine sim_let (v := AV.ptr o_ 1 0 0) rfl ?_
    refine sim_let (v := AV.ptr o_ 1 0 1) rfl ?_
    refine sim_let (v := iv d_.i) (O2.ld 0 rfl false 1 1) ?_
    refine sim_let (v := iv (wr (d_.i + 1))) (aBin_add _ _) ?_
    refine sim_let (v := AV.ptr o_ 1 0 0) rfl ?_
    refine sim_let (v := AV.ptr o_ 1 0 1) rfl ?_
    refine sim_store O2 0 (cs' := [Sl.enc d_.b, iv (wr (d_.i + 1)), AV.sc (.int .u64 (IntKind.u64.wrap ((IntKind.u64.wrap (d_.h * 6364136223846793005)) + 1442695040888963407)))]) rfl (by first | rfl | simp) (by simp) (by first | rfl | simp) (by first | rfl | simp [splice]) (fun h8 O9 => ?_)
    replace O9 : Hold B h8 [(AV.ptr o_ 1 0 0, .pt 3 [Sl.enc d_.b, iv (wr (d_.i + 1)), AV.sc (.int .u64 (IntKind.u64.wrap ((IntKind.u64.wrap (d_.h * 6364136223846793005)) + 1442695040888963407)))])] := O9
    refine sim_rem (fun q10 => ?_)
    exact sim_ret ⟨rfl, O9⟩
  · refine sim_rem (fun q12 => ?_)
    exact sim_ret ⟨rfl, O2⟩
noncomputable def ev_laws_f6dice_below : Nat → Contract := envL []
theorem eo_laws_f6dice_below : EnvOK Try.prog ev_laws_f6dice_below := E0
theorem tg_laws_f6dice_below {B : Base} {h : Heap} {o_ : Nat} (d_ : f6dice) (n_ : Int) (O : Hold B h [(AV.ptr o_ 1 0 0, .pt 3 [Sl.enc d_.b, iv d_.i, AV.sc (.int .u64 d_.h)])]) : Sim (denFn Try.prog ev_laws_f6dice_below n_laws_f6dice_below [AV.ptr o_ 1 0 0, iv n_] h) (t_laws_f6dice_below d_ n_) (fun c p => p.1 = iv c.1 ∧ Hold B p.2 [(AV.ptr o_ 1 0 0, .pt 3 [Sl.enc c.2.b, iv c.2.i, AV.sc (.int .u64 c.2.h)])]) := ts_laws_f6dice_below ev_laws_f6dice_below  d_ n_  O

def t_laws_FnRelations (code_ : Sl UInt8) : Option Bool :=
  obind (t_laws_f6big code_) fun c1 =>
  bif c1 then
    some true
  else
    obind (t_spec_DrawRelationOf code_) fun c3 =>
    obind (some (relationOf c3.1 c3.2)) fun c16 =>
    obind (some (relationOf c3.1 c3.2)) fun c17 =>
    obind (some (flipBox c3.1)) fun c18 =>
    obind (some (flipBox c3.1)) fun c25 =>
    obind (some (middleOf c3.1)) fun c32 =>
    obind (some (middleOf c3.1)) fun c39 =>
    obind (some (commonArea c3.1 c3.2)) fun c46 =>
    obind (some (commonArea c3.1 c3.2)) fun c47 =>
    obind (bif !decide (c16.2 = c17.2) then some false else (some (!decide (c16.1 = c17.1)))) fun c49 =>
    obind (bif (bif !decide (c16.2 = c17.2) then true else c49) then some false else (some (!decide (c18.2 = c25.2)))) fun c51 =>
    obind (bif (bif (bif !decide (c16.2 = c17.2) then true else c49) then true else c51) then some false else (some (!decide (c18.1 = c25.1)))) fun c53 =>
    obind (bif (bif (bif (bif !decide (c16.2 = c17.2) then true else c49) then true else c51) then true else c53) then some false else (some (!decide (c32.2 = c39.2)))) fun c55 =>
    obind (bif (bif (bif (bif (bif !decide (c16.2 = c17.2) then true else c49) then true else c51) then true else c53) then true else c55) then some false else (some (!decide (c32.1 = c39.1)))) fun c57 =>
    obind (bif (bif (bif (bif (bif (bif !decide (c16.2 = c17.2) then true else c49) then true else c51) then true else c53) then true else c55) then true else c57) then some false else (some (!decide (c46.2 = c47.2)))) fun c59 =>
    obind (bif (bif (bif (bif (bif (bif (bif !decide (c16.2 = c17.2) then true else c49) then true else c51) then true else c53) then true else c55) then true else c57) then true else c59) then some false else (some (!decide (c46.1 = c47.1)))) fun c61 =>
    bif (bif (bif (bif (bif (bif (bif (bif !decide (c16.2 = c17.2) then true else c49) then true else c51) then true else c53) then true else c55) then true else c57) then true else c59) then true else c61) then
      some false
    else
      bif !decide (c16.2 = 0) then
        some true
      else
        obind (some (flipBox c3.2)) fun c64 =>
        obind (some (relationOf c18.1 c64.1)) fun c71 =>
        obind (some (commonArea c3.2 c3.1)) fun c72 =>
        obind (bif !decide (c64.2 = 0) then some false else (some (!decide (c71.2 = 0)))) fun c74 =>
        obind (bif (bif !decide (c64.2 = 0) then true else c74) then some false else (some (!decide (c72.2 = 0)))) fun c76 =>
        obind (bif (bif (bif !decide (c64.2 = 0) then true else c74) then true else c76) then some false else (some (!decide (c72.1 = c46.1)))) fun c78 =>
        bif (bif (bif (bif !decide (c64.2 = 0) then true else c74) then true else c76) then true else c78) then
          some false
        else
          obind (t_laws_f6roll code_ (⟨2001⟩ : Wd)) fun c80 =>
          obind (t_laws_f6dice_below c80 100) fun c85 =>
          obind (t_laws_f6dice_below c85.2 100) fun c91 =>
          obind (some (relationOf (⟨wr (c3.1.x1 + c85.1), wr (c3.1.y1 + c91.1), wr (c3.1.x2 + c85.1), wr (c3.1.y2 + c91.1)⟩ : Box) (⟨wr (c3.2.x1 + c85.1), wr (c3.2.y1 + c91.1), wr (c3.2.x2 + c85.1), wr (c3.2.y2 + c91.1)⟩ : Box))) fun c97 =>
          obind (bif decide (c97.2 = 0) then (some (!decide (c97.1 = c16.1))) else some false) fun c99 =>
          bif (bif decide (c97.2 = 0) then c99 else false) then
            some false
          else
            obind (bif decide (c3.2.y1 = c3.2.y2) then (some (decide (wr (2 * c3.2.y1) = wr (c3.1.y1 + c3.1.y2)))) else some false) fun c102 =>
            obind (bif (bif decide (c3.2.y1 = c3.2.y2) then c102 else false) then some false else (some (decide (c3.1.y1 = c3.1.y2)))) fun c104 =>
            obind (bif (!(bif decide (c3.2.y1 = c3.2.y2) then c102 else false) && c104) then (some (decide (c3.2.y1 = c3.2.y2))) else some false) fun c106 =>
            obind (bif (bif decide (c3.2.y1 = c3.2.y2) then c102 else false) then some false else (some (bif c104 then c106 else false))) fun c108 =>
            bif (bif (bif decide (c3.2.y1 = c3.2.y2) then c102 else false) then true else c108) then
              some true
            else
              bif decide (c16.1 = 2) then
                some (decide (c71.1 = 3))
              else
                bif decide (c16.1 = 3) then
                  some (decide (c71.1 = 2))
                else
                  bif decide (c16.1 = 4) then
                    some (decide (c71.1 = 5))
                  else
                    bif decide (c16.1 = 5) then
                      some (decide (c71.1 = 4))
                    else
                      some (decide (c71.1 = c16.1))

theorem ts_laws_FnRelations (env : Nat → Contract) (he_impl_CommonArea : env n_impl_CommonArea = .pure (T2 commonArea)) (he_impl_FlipBox : env n_impl_FlipBox = .pure (T1 flipBox)) (he_impl_MiddleOf : env n_impl_MiddleOf = .pure (T1 middleOf)) (he_impl_RelationOf : env n_impl_RelationOf = .pure (T2 relationOf)) (he_laws_f6big : env n_laws_f6big = .pure (C1 (fun c : Bool => enc c) t_laws_f6big)) (he_laws_f6dice_below : env n_laws_f6dice_below = .gen (denFn Try.prog ev_laws_f6dice_below n_laws_f6dice_below)) (he_laws_f6roll : env n_laws_f6roll = .pure (C2 (fun c : f6dice => AV.np 3 [[Sl.enc c.b, iv c.i, AV.sc (.int .u64 c.h)]] 0 0) t_laws_f6roll)) (he_spec_CommonArea : env n_spec_CommonArea = .pure (T2 commonArea)) (he_spec_DrawRelationOf : env n_spec_DrawRelationOf = .pure (C1 (fun c : Box × Box => AV.tup [enc c.1, enc c.2]) t_spec_DrawRelationOf)) (he_spec_FlipBox : env n_spec_FlipBox = .pure (T1 flipBox)) (he_spec_MiddleOf : env n_spec_MiddleOf = .pure (T1 middleOf)) (he_spec_RelationOf : env n_spec_RelationOf = .pure (T2 relationOf)) (code_ : Sl UInt8) : Sim (denFn Try.prog env n_laws_FnRelations [Sl.enc code_] []) (t_laws_FnRelations code_) fun c p => release p.2 depth p.1 = some ((fun c : Bool => enc c) c) := by
  have O := Hold.nil []
  generalize hB : (⟨[], []⟩ : Base) = B at O
  clear hB
  rw [e_laws_FnRelations]
  unfold t_laws_FnRelations
  refine sim_call1 he_laws_f6big (snapD_enc _ _) (fun c1 => ?_)
  refine sim_let2 (hand_plain (by rfl) _ _) ?_
  refine sim_cond (fun c2 => ?_) (fun c2 => ?_)
  · exact sim_ret (release_plain (by rfl) _)
  · refine sim_call1 he_spec_DrawRelationOf (snapD_enc _ _) (fun c3 => ?_)
    refine sim_let2 (hand_plain (by rfl) _ _) ?_
    refine sim_let (v := AV.agg [iv c3.1.x1, iv c3.1.y1, iv c3.1.x2, iv c3.1.y2]) rfl ?_
    refine sim_let (v := AV.agg [iv c3.2.x1, iv c3.2.y1, iv c3.2.x2, iv c3.2.y2]) rfl ?_
    refine sim_box O (cs := [iv 0, iv 0, iv 0, iv 0]) (by first | rfl | simp) (fun o4 h5 O6 => ?_)
    replace O6 : Hold B h5 [(AV.ptr o4 1 0 0, .pt 4 [iv 0, iv 0, iv 0, iv 0])] := O6
    refine sim_box O6 (cs := [iv 0, iv 0, iv 0, iv 0]) (by first | rfl | simp) (fun o8 h9 O10 => ?_)
    replace O10 : Hold B h9 [(AV.ptr o4 1 0 0, .pt 4 [iv 0, iv 0, iv 0, iv 0]), (AV.ptr o8 1 0 0, .pt 4 [iv 0, iv 0, iv 0, iv 0])] := O10
    refine sim_store O10 0 (cs' := [iv c3.1.x1, iv c3.1.y1, iv c3.1.x2, iv c3.1.y2]) rfl (by first | rfl | simp) (by simp) (by first | rfl | simp) (by first | rfl | simp [splice]) (fun h12 O13 => ?_)
    replace O13 : Hold B h12 [(AV.ptr o4 1 0 0, .pt 4 [iv c3.1.x1, iv c3.1.y1, iv c3.1.x2, iv c3.1.y2]), (AV.ptr o8 1 0 0, .pt 4 [iv 0, iv 0, iv 0, iv 0])] := O13
    refine sim_store O13 1 (cs' := [iv c3.2.x1, iv c3.2.y1, iv c3.2.x2, iv c3.2.y2]) rfl (by first | rfl | simp) (by simp) (by first | rfl | simp) (by first | rfl | simp [splice]) (fun h14 O15 => ?_)
    replace O15 : Hold B h14 [(AV.ptr o4 1 0 0, .pt 4 [iv c3.1.x1, iv c3.1.y1, iv c3.1.x2, iv c3.1.y2]), (AV.ptr o8 1 0 0, .pt 4 [iv c3.2.x1, iv c3.2.y1, iv c3.2.x2, iv c3.2.y2])] := O15
    refine sim_let (v := AV.agg [iv c3.1.x1, iv c3.1.y1, iv c3.1.x2, iv c3.1.y2]) (O15.ld 0 rfl true 4 0) ?_
    refine sim_let (v := AV.agg [iv c3.2.x1, iv c3.2.y1, iv c3.2.x2, iv c3.2.y2]) (O15.ld 1 rfl true 4 0) ?_
    refine sim_callV2 he_impl_RelationOf (snapD_nr _ c3.1 rfl) (snapD_nr _ c3.2 rfl) (fun c16 => ?_)
    refine sim_let (v := iv c16.1) rfl ?_
    refine sim_let (v := iv c16.2) rfl ?_
    refine sim_let (v := AV.agg [iv c3.1.x1, iv c3.1.y1, iv c3.1.x2, iv c3.1.y2]) (O15.ld 0 rfl true 4 0) ?_
    refine sim_let (v := AV.agg [iv c3.2.x1, iv c3.2.y1, iv c3.2.x2, iv c3.2.y2]) (O15.ld 1 rfl true 4 0) ?_
    refine sim_callV2 he_spec_RelationOf (snapD_nr _ c3.1 rfl) (snapD_nr _ c3.2 rfl) (fun c17 => ?_)
    refine sim_let (v := iv c17.1) rfl ?_
    refine sim_let (v := iv c17.2) rfl ?_
    refine sim_let (v := AV.agg [iv c3.1.x1, iv c3.1.y1, iv c3.1.x2, iv c3.1.y2]) (O15.ld 0 rfl true 4 0) ?_
    refine sim_callV1 he_impl_FlipBox (snapD_nr _ c3.1 rfl) (fun c18 => ?_)
    refine sim_let (v := AV.agg [iv c18.1.x1, iv c18.1.y1, iv c18.1.x2, iv c18.1.y2]) rfl ?_
    refine sim_let (v := iv c18.2) rfl ?_
    refine sim_box O15 (cs := [iv 0, iv 0, iv 0, iv 0]) (by first | rfl | simp) (fun o19 h20 O21 => ?_)
    replace O21 : Hold B h20 [(AV.ptr o4 1 0 0, .pt 4 [iv c3.1.x1, iv c3.1.y1, iv c3.1.x2, iv c3.1.y2]), (AV.ptr o8 1 0 0, .pt 4 [iv c3.2.x1, iv c3.2.y1, iv c3.2.x2, iv c3.2.y2]), (AV.ptr o19 1 0 0, .pt 4 [iv 0, iv 0, iv 0, iv 0])] := O21
    refine sim_store O21 2 (cs' := [iv c18.1.x1, iv c18.1.y1, iv c18.1.x2, iv c18.1.y2]) rfl (by first | rfl | simp) (by simp) (by first | rfl | simp) (by first | rfl | simp [splice]) (fun h23 O24 => ?_)
    replace O24 : Hold B h23 [(AV.ptr o4 1 0 0, .pt 4 [iv c3.1.x1, iv c3.1.y1, iv c3.1.x2, iv c3.1.y2]), (AV.ptr o8 1 0 0, .pt 4 [iv c3.2.x1, iv c3.2.y1, iv c3.2.x2, iv c3.2.y2]), (AV.ptr o19 1 0 0, .pt 4 [iv c18.1.x1, iv c18.1.y1, iv c18.1.x2, iv c18.1.y2])] := O24
    refine sim_let (v := AV.agg [iv c3.1.x1, iv c3.1.y1, iv c3.1.x2, iv c3.1.y2]) (O24.ld 0 rfl true 4 0) ?_
    refine sim_callV1 he_spec_FlipBox (snapD_nr _ c3.1 rfl) (fun c25 => ?_)
    refine sim_let (v := AV.agg [iv c25.1.x1, iv c25.1.y1, iv c25.1.x2, iv c25.1.y2]) rfl ?_
    refine sim_let (v := iv c25.2) rfl ?_
    refine sim_box O24 (cs := [iv 0, iv 0, iv 0, iv 0]) (by first | rfl | simp) (fun o26 h27 O28 => ?_)
    replace O28 : Hold B h27 [(AV.ptr o4 1 0 0, .pt 4 [iv c3.1.x1, iv c3.1.y1, iv c3.1.x2, iv c3.1.y2]), (AV.ptr o8 1 0 0, .pt 4 [iv c3.2.x1, iv c3.2.y1, iv c3.2.x2, iv c3.2.y2]), (AV.ptr o19 1 0 0, .pt 4 [iv c18.1.x1, iv c18.1.y1, iv c18.1.x2, iv c18.1.y2]), (AV.ptr o26 1 0 0, .pt 4 [iv 0, iv 0, iv 0, iv 0])] := O28
    refine sim_store O28 3 (cs' := [iv c25.1.x1, iv c25.1.y1, iv c25.1.x2, iv c25.1.y2]) rfl (by first | rfl | simp) (by simp) (by first | rfl | simp) (by first | rfl | simp [splice]) (fun h30 O31 => ?_)
    replace O31 : Hold B h30 [(AV.ptr o4 1 0 0, .pt 4 [iv c3.1.x1, iv c3.1.y1, iv c3.1.x2, iv c3.1.y2]), (AV.ptr o8 1 0 0, .pt 4 [iv c3.2.x1, iv c3.2.y1, iv c3.2.x2, iv c3.2.y2]), (AV.ptr o19 1 0 0, .pt 4 [iv c18.1.x1, iv c18.1.y1, iv c18.1.x2, iv c18.1.y2]), (AV.ptr o26 1 0 0, .pt 4 [iv c25.1.x1, iv c25.1.y1, iv c25.1.x2, iv c25.1.y2])] := O31
    refine sim_let (v := AV.agg [iv c3.1.x1, iv c3.1.y1, iv c3.1.x2, iv c3.1.y2]) (O31.ld 0 rfl true 4 0) ?_
    refine sim_callV1 he_impl_MiddleOf (snapD_nr _ c3.1 rfl) (fun c32 => ?_)
    refine sim_let (v := AV.agg [iv c32.1.x, iv c32.1.y]) rfl ?_
    refine sim_let (v := iv c32.2) rfl ?_
    refine sim_box O31 (cs := [iv 0, iv 0]) (by first | rfl | simp) (fun o33 h34 O35 => ?_)
    replace O35 : Hold B h34 [(AV.ptr o4 1 0 0, .pt 4 [iv c3.1.x1, iv c3.1.y1, iv c3.1.x2, iv c3.1.y2]), (AV.ptr o8 1 0 0, .pt 4 [iv c3.2.x1, iv c3.2.y1, iv c3.2.x2, iv c3.2.y2]), (AV.ptr o19 1 0 0, .pt 4 [iv c18.1.x1, iv c18.1.y1, iv c18.1.x2, iv c18.1.y2]), (AV.ptr o26 1 0 0, .pt 4 [iv c25.1.x1, iv c25.1.y1, iv c25.1.x2, iv c25.1.y2]), (AV.ptr o33 1 0 0, .pt 2 [iv 0, iv 0])] := O35
    refine sim_store O35 4 (cs' := [iv c32.1.x, iv c32.1.y]) rfl (by first | rfl | simp) (by simp) (by first | rfl | simp) (by first | rfl | simp [splice]) (fun h37 O38 => ?_)
    replace O38 : Hold B h37 [(AV.ptr o4 1 0 0, .pt 4 [iv c3.1.x1, iv c3.1.y1, iv c3.1.x2, iv c3.1.y2]), (AV.ptr o8 1 0 0, .pt 4 [iv c3.2.x1, iv c3.2.y1, iv c3.2.x2, iv c3.2.y2]), (AV.ptr o19 1 0 0, .pt 4 [iv c18.1.x1, iv c18.1.y1, iv c18.1.x2, iv c18.1.y2]), (AV.ptr o26 1 0 0, .pt 4 [iv c25.1.x1, iv c25.1.y1, iv c25.1.x2, iv c25.1.y2]), (AV.ptr o33 1 0 0, .pt 2 [iv c32.1.x, iv c32.1.y])] := O38
    refine sim_let (v := AV.agg [iv c3.1.x1, iv c3.1.y1, iv c3.1.x2, iv c3.1.y2]) (O38.ld 0 rfl true 4 0) ?_
    refine sim_callV1 he_spec_MiddleOf (snapD_nr _ c3.1 rfl) (fun c39 => ?_)
    refine sim_let (v := AV.agg [iv c39.1.x, iv c39.1.y]) rfl ?_
    refine sim_let (v := iv c39.2) rfl ?_
    refine sim_box O38 (cs := [iv 0, iv 0]) (by first | rfl | simp) (fun o40 h41 O42 => ?_)
    replace O42 : Hold B h41 [(AV.ptr o4 1 0 0, .pt 4 [iv c3.1.x1, iv c3.1.y1, iv c3.1.x2, iv c3.1.y2]), (AV.ptr o8 1 0 0, .pt 4 [iv c3.2.x1, iv c3.2.y1, iv c3.2.x2, iv c3.2.y2]), (AV.ptr o19 1 0 0, .pt 4 [iv c18.1.x1, iv c18.1.y1, iv c18.1.x2, iv c18.1.y2]), (AV.ptr o26 1 0 0, .pt 4 [iv c25.1.x1, iv c25.1.y1, iv c25.1.x2, iv c25.1.y2]), (AV.ptr o33 1 0 0, .pt 2 [iv c32.1.x, iv c32.1.y]), (AV.ptr o40 1 0 0, .pt 2 [iv 0, iv 0])] := O42
    refine sim_store O42 5 (cs' := [iv c39.1.x, iv c39.1.y]) rfl (by first | rfl | simp) (by simp) (by first | rfl | simp) (by first | rfl | simp [splice]) (fun h44 O45 => ?_)
    replace O45 : Hold B h44 [(AV.ptr o4 1 0 0, .pt 4 [iv c3.1.x1, iv c3.1.y1, iv c3.1.x2, iv c3.1.y2]), (AV.ptr o8 1 0 0, .pt 4 [iv c3.2.x1, iv c3.2.y1, iv c3.2.x2, iv c3.2.y2]), (AV.ptr o19 1 0 0, .pt 4 [iv c18.1.x1, iv c18.1.y1, iv c18.1.x2, iv c18.1.y2]), (AV.ptr o26 1 0 0, .pt 4 [iv c25.1.x1, iv c25.1.y1, iv c25.1.x2, iv c25.1.y2]), (AV.ptr o33 1 0 0, .pt 2 [iv c32.1.x, iv c32.1.y]), (AV.ptr o40 1 0 0, .pt 2 [iv c39.1.x, iv c39.1.y])] := O45
    refine sim_let (v := AV.agg [iv c3.1.x1, iv c3.1.y1, iv c3.1.x2, iv c3.1.y2]) (O45.ld 0 rfl true 4 0) ?_
    refine sim_let (v := AV.agg [iv c3.2.x1, iv c3.2.y1, iv c3.2.x2, iv c3.2.y2]) (O45.ld 1 rfl true 4 0) ?_
    refine sim_callV2 he_impl_CommonArea (snapD_nr _ c3.1 rfl) (snapD_nr _ c3.2 rfl) (fun c46 => ?_)
    refine sim_let (v := iv c46.1) rfl ?_
    refine sim_let (v := iv c46.2) rfl ?_
    refine sim_let (v := AV.agg [iv c3.1.x1, iv c3.1.y1, iv c3.1.x2, iv c3.1.y2]) (O45.ld 0 rfl true 4 0) ?_
    refine sim_let (v := AV.agg [iv c3.2.x1, iv c3.2.y1, iv c3.2.x2, iv c3.2.y2]) (O45.ld 1 rfl true 4 0) ?_
    refine sim_callV2 he_spec_CommonArea (snapD_nr _ c3.1 rfl) (snapD_nr _ c3.2 rfl) (fun c47 => ?_)
    refine sim_let (v := iv c47.1) rfl ?_
    refine sim_let (v := iv c47.2) rfl ?_
    refine sim_let (v := bv (!decide (c16.2 = c17.2))) (aCmp_ne _ _) ?_
    refine sim_guardF (e := bv) (fun hb48 => ?_) (fun c49 => ?_)
    · refine sim_let (v := bv (!decide (c16.1 = c17.1))) (aCmp_ne _ _) ?_
      exact sim_ret rfl
    · refine sim_let (v := bv (bif !decide (c16.2 = c17.2) then true else c49)) (pick_b' _ _ _) ?_
      refine sim_guardF (e := bv) (fun hb50 => ?_) (fun c51 => ?_)
      · refine sim_let (v := bv (!decide (c18.2 = c25.2))) (aCmp_ne _ _) ?_
        exact sim_ret rfl
      · refine sim_let (v := bv (bif (bif !decide (c16.2 = c17.2) then true else c49) then true else c51)) (pick_b' _ _ _) ?_
        refine sim_guardF (e := bv) (fun hb52 => ?_) (fun c53 => ?_)
        · refine sim_let (v := AV.agg [iv c18.1.x1, iv c18.1.y1, iv c18.1.x2, iv c18.1.y2]) (O45.ld 2 rfl true 4 0) ?_
          refine sim_let (v := AV.agg [iv c25.1.x1, iv c25.1.y1, iv c25.1.x2, iv c25.1.y2]) (O45.ld 3 rfl true 4 0) ?_
          refine sim_let (v := bv (!decide (c18.1 = c25.1))) (aCmp_box c18.1 c25.1).2 ?_
          exact sim_ret rfl
        · refine sim_let (v := bv (bif (bif (bif !decide (c16.2 = c17.2) then true else c49) then true else c51) then true else c53)) (pick_b' _ _ _) ?_
          refine sim_guardF (e := bv) (fun hb54 => ?_) (fun c55 => ?_)
          · refine sim_let (v := bv (!decide (c32.2 = c39.2))) (aCmp_ne _ _) ?_
            exact sim_ret rfl
          · refine sim_let (v := bv (bif (bif (bif (bif !decide (c16.2 = c17.2) then true else c49) then true else c51) then true else c53) then true else c55)) (pick_b' _ _ _) ?_
            refine sim_guardF (e := bv) (fun hb56 => ?_) (fun c57 => ?_)
            · refine sim_let (v := AV.agg [iv c32.1.x, iv c32.1.y]) (O45.ld 4 rfl true 2 0) ?_
              refine sim_let (v := AV.agg [iv c39.1.x, iv c39.1.y]) (O45.ld 5 rfl true 2 0) ?_
              refine sim_let (v := bv (!decide (c32.1 = c39.1))) (aCmp_Spot c32.1 c39.1).2 ?_
              exact sim_ret rfl
            · refine sim_let (v := bv (bif (bif (bif (bif (bif !decide (c16.2 = c17.2) then true else c49) then true else c51) then true else c53) then true else c55) then true else c57)) (pick_b' _ _ _) ?_
              refine sim_guardF (e := bv) (fun hb58 => ?_) (fun c59 => ?_)
              · refine sim_let (v := bv (!decide (c46.2 = c47.2))) (aCmp_ne _ _) ?_
                exact sim_ret rfl
              · refine sim_let (v := bv (bif (bif (bif (bif (bif (bif !decide (c16.2 = c17.2) then true else c49) then true else c51) then true else c53) then true else c55) then true else c57) then true else c59)) (pick_b' _ _ _) ?_
                refine sim_guardF (e := bv) (fun hb60 => ?_) (fun c61 => ?_)
                · refine sim_let (v := bv (!decide (c46.1 = c47.1))) (aCmp_ne _ _) ?_
                  exact sim_ret rfl
                · refine sim_let (v := bv (bif (bif (bif (bif (bif (bif (bif !decide (c16.2 = c17.2) then true else c49) then true else c51) then true else c53) then true else c55) then true else c57) then true else c59) then true else c61)) (pick_b' _ _ _) ?_
                  refine sim_cond (fun c62 => ?_) (fun c62 => ?_)
                  · exact sim_ret (release_plain (by rfl) _)
                  · refine sim_let (v := bv (!decide (c16.2 = 0))) (aCmp_ne _ _) ?_
                    refine sim_cond (fun c63 => ?_) (fun c63 => ?_)
                    · exact sim_ret (release_plain (by rfl) _)
                    · refine sim_let (v := AV.agg [iv c3.2.x1, iv c3.2.y1, iv c3.2.x2, iv c3.2.y2]) (O45.ld 1 rfl true 4 0) ?_
                      refine sim_callV1 he_impl_FlipBox (snapD_nr _ c3.2 rfl) (fun c64 => ?_)
                      refine sim_let (v := AV.agg [iv c64.1.x1, iv c64.1.y1, iv c64.1.x2, iv c64.1.y2]) rfl ?_
                      refine sim_let (v := iv c64.2) rfl ?_
                      refine sim_box O45 (cs := [iv 0, iv 0, iv 0, iv 0]) (by first | rfl | simp) (fun o65 h66 O67 => ?_)
                      replace O67 : Hold B h66 [(AV.ptr o4 1 0 0, .pt 4 [iv c3.1.x1, iv c3.1.y1, iv c3.1.x2, iv c3.1.y2]), (AV.ptr o8 1 0 0, .pt 4 [iv c3.2.x1, iv c3.2.y1, iv c3.2.x2, iv c3.2.y2]), (AV.ptr o19 1 0 0, .pt 4 [iv c18.1.x1, iv c18.1.y1, iv c18.1.x2, iv c18.1.y2]), (AV.ptr o26 1 0 0, .pt 4 [iv c25.1.x1, iv c25.1.y1, iv c25.1.x2, iv c25.1.y2]), (AV.ptr o33 1 0 0, .pt 2 [iv c32.1.x, iv c32.1.y]), (AV.ptr o40 1 0 0, .pt 2 [iv c39.1.x, iv c39.1.y]), (AV.ptr o65 1 0 0, .pt 4 [iv 0, iv 0, iv 0, iv 0])] := O67
                      refine sim_store O67 6 (cs' := [iv c64.1.x1, iv c64.1.y1, iv c64.1.x2, iv c64.1.y2]) rfl (by first | rfl | simp) (by simp) (by first | rfl | simp) (by first | rfl | simp [splice]) (fun h69 O70 => ?_)
                      replace O70 : Hold B h69 [(AV.ptr o4 1 0 0, .pt 4 [iv c3.1.x1, iv c3.1.y1, iv c3.1.x2, iv c3.1.y2]), (AV.ptr o8 1 0 0, .pt 4 [iv c3.2.x1, iv c3.2.y1, iv c3.2.x2, iv c3.2.y2]), (AV.ptr o19 1 0 0, .pt 4 [iv c18.1.x1, iv c18.1.y1, iv c18.1.x2, iv c18.1.y2]), (AV.ptr o26 1 0 0, .pt 4 [iv c25.1.x1, iv c25.1.y1, iv c25.1.x2, iv c25.1.y2]), (AV.ptr o33 1 0 0, .pt 2 [iv c32.1.x, iv c32.1.y]), (AV.ptr o40 1 0 0, .pt 2 [iv c39.1.x, iv c39.1.y]), (AV.ptr o65 1 0 0, .pt 4 [iv c64.1.x1, iv c64.1.y1, iv c64.1.x2, iv c64.1.y2])] := O70
                      refine sim_let (v := AV.agg [iv c18.1.x1, iv c18.1.y1, iv c18.1.x2, iv c18.1.y2]) (O70.ld 2 rfl true 4 0) ?_
                      refine sim_let (v := AV.agg [iv c64.1.x1, iv c64.1.y1, iv c64.1.x2, iv c64.1.y2]) (O70.ld 6 rfl true 4 0) ?_
                      refine sim_callV2 he_impl_RelationOf (snapD_nr _ c18.1 rfl) (snapD_nr _ c64.1 rfl) (fun c71 => ?_)
                      refine sim_let (v := iv c71.1) rfl ?_
                      refine sim_let (v := iv c71.2) rfl ?_
                      refine sim_let (v := AV.agg [iv c3.2.x1, iv c3.2.y1, iv c3.2.x2, iv c3.2.y2]) (O70.ld 1 rfl true 4 0) ?_
                      refine sim_let (v := AV.agg [iv c3.1.x1, iv c3.1.y1, iv c3.1.x2, iv c3.1.y2]) (O70.ld 0 rfl true 4 0) ?_
                      refine sim_callV2 he_impl_CommonArea (snapD_nr _ c3.2 rfl) (snapD_nr _ c3.1 rfl) (fun c72 => ?_)
                      refine sim_let (v := iv c72.1) rfl ?_
                      refine sim_let (v := iv c72.2) rfl ?_
                      refine sim_let (v := bv (!decide (c64.2 = 0))) (aCmp_ne _ _) ?_
                      refine sim_guardF (e := bv) (fun hb73 => ?_) (fun c74 => ?_)
                      · refine sim_let (v := bv (!decide (c71.2 = 0))) (aCmp_ne _ _) ?_
                        exact sim_ret rfl
                      · refine sim_let (v := bv (bif !decide (c64.2 = 0) then true else c74)) (pick_b' _ _ _) ?_
                        refine sim_guardF (e := bv) (fun hb75 => ?_) (fun c76 => ?_)
                        · refine sim_let (v := bv (!decide (c72.2 = 0))) (aCmp_ne _ _) ?_
                          exact sim_ret rfl
                        · refine sim_let (v := bv (bif (bif !decide (c64.2 = 0) then true else c74) then true else c76)) (pick_b' _ _ _) ?_
                          refine sim_guardF (e := bv) (fun hb77 => ?_) (fun c78 => ?_)
                          · refine sim_let (v := bv (!decide (c72.1 = c46.1))) (aCmp_ne _ _) ?_
                            exact sim_ret rfl
                          · refine sim_let (v := bv (bif (bif (bif !decide (c64.2 = 0) then true else c74) then true else c76) then true else c78)) (pick_b' _ _ _) ?_
                            refine sim_cond (fun c79 => ?_) (fun c79 => ?_)
                            · exact sim_ret (release_plain (by rfl) _)
                            · refine sim_call2 he_laws_f6roll (snapD_enc _ _) (snapD_u64 _ _) (fun c80 => ?_)
                              refine sim_handP (cs := [Sl.enc c80.b, iv c80.i, AV.sc (.int .u64 c80.h)]) O70 (by simp only [List.all_cons, List.all_nil, nr_sl, Bool.and_true]; rfl) (by first | rfl | (simp only [List.all_cons, List.all_nil, noRef_enc, Bool.and_true, Bool.true_and] <;> rfl)) (fun o81 h82 O83 => ?_)
                              replace O83 : Hold B h82 [(AV.ptr o4 1 0 0, .pt 4 [iv c3.1.x1, iv c3.1.y1, iv c3.1.x2, iv c3.1.y2]), (AV.ptr o8 1 0 0, .pt 4 [iv c3.2.x1, iv c3.2.y1, iv c3.2.x2, iv c3.2.y2]), (AV.ptr o19 1 0 0, .pt 4 [iv c18.1.x1, iv c18.1.y1, iv c18.1.x2, iv c18.1.y2]), (AV.ptr o26 1 0 0, .pt 4 [iv c25.1.x1, iv c25.1.y1, iv c25.1.x2, iv c25.1.y2]), (AV.ptr o33 1 0 0, .pt 2 [iv c32.1.x, iv c32.1.y]), (AV.ptr o40 1 0 0, .pt 2 [iv c39.1.x, iv c39.1.y]), (AV.ptr o65 1 0 0, .pt 4 [iv c64.1.x1, iv c64.1.y1, iv c64.1.x2, iv c64.1.y2]), (AV.ptr o81 1 0 0, .pt 3 [Sl.enc c80.b, iv c80.i, AV.sc (.int .u64 c80.h)])] := O83
                              refine sim_gen he_laws_f6dice_below (tg_laws_f6dice_below c80 100 (O83.start (i := 7) rfl rfl)) (fun c85 v86 h87 hq88 => ?_)
                              obtain ⟨e_v86, O89⟩ := hq88
                              dsimp only at e_v86
                              subst v86
                              have O90 : Hold B h87 [(AV.ptr o4 1 0 0, .pt 4 [iv c3.1.x1, iv c3.1.y1, iv c3.1.x2, iv c3.1.y2]), (AV.ptr o8 1 0 0, .pt 4 [iv c3.2.x1, iv c3.2.y1, iv c3.2.x2, iv c3.2.y2]), (AV.ptr o19 1 0 0, .pt 4 [iv c18.1.x1, iv c18.1.y1, iv c18.1.x2, iv c18.1.y2]), (AV.ptr o26 1 0 0, .pt 4 [iv c25.1.x1, iv c25.1.y1, iv c25.1.x2, iv c25.1.y2]), (AV.ptr o33 1 0 0, .pt 2 [iv c32.1.x, iv c32.1.y]), (AV.ptr o40 1 0 0, .pt 2 [iv c39.1.x, iv c39.1.y]), (AV.ptr o65 1 0 0, .pt 4 [iv c64.1.x1, iv c64.1.y1, iv c64.1.x2, iv c64.1.y2]), (AV.ptr o81 1 0 0, .pt 3 [Sl.enc c85.2.b, iv c85.2.i, AV.sc (.int .u64 c85.2.h)])] := O83.merge (i := 7) rfl rfl O89
                              refine sim_gen he_laws_f6dice_below (tg_laws_f6dice_below c85.2 100 (O90.start (i := 7) rfl rfl)) (fun c91 v92 h93 hq94 => ?_)
                              obtain ⟨e_v92, O95⟩ := hq94
                              dsimp only at e_v92
                              subst v92
                              have O96 : Hold B h93 [(AV.ptr o4 1 0 0, .pt 4 [iv c3.1.x1, iv c3.1.y1, iv c3.1.x2, iv c3.1.y2]), (AV.ptr o8 1 0 0, .pt 4 [iv c3.2.x1, iv c3.2.y1, iv c3.2.x2, iv c3.2.y2]), (AV.ptr o19 1 0 0, .pt 4 [iv c18.1.x1, iv c18.1.y1, iv c18.1.x2, iv c18.1.y2]), (AV.ptr o26 1 0 0, .pt 4 [iv c25.1.x1, iv c25.1.y1, iv c25.1.x2, iv c25.1.y2]), (AV.ptr o33 1 0 0, .pt 2 [iv c32.1.x, iv c32.1.y]), (AV.ptr o40 1 0 0, .pt 2 [iv c39.1.x, iv c39.1.y]), (AV.ptr o65 1 0 0, .pt 4 [iv c64.1.x1, iv c64.1.y1, iv c64.1.x2, iv c64.1.y2]), (AV.ptr o81 1 0 0, .pt 3 [Sl.enc c91.2.b, iv c91.2.i, AV.sc (.int .u64 c91.2.h)])] := O90.merge (i := 7) rfl rfl O95
                              refine sim_let (v := AV.ptr o4 1 0 0) rfl ?_
                              refine sim_let (v := iv c3.1.x1) (O96.ld 0 rfl false 1 0) ?_
                              refine sim_let (v := iv (wr (c3.1.x1 + c85.1))) (aBin_add _ _) ?_
                              refine sim_let (v := AV.ptr o4 1 0 1) rfl ?_
                              refine sim_let (v := iv c3.1.y1) (O96.ld 0 rfl false 1 1) ?_
                              refine sim_let (v := iv (wr (c3.1.y1 + c91.1))) (aBin_add _ _) ?_
                              refine sim_let (v := AV.ptr o4 1 0 2) rfl ?_
                              refine sim_let (v := iv c3.1.x2) (O96.ld 0 rfl false 1 2) ?_
                              refine sim_let (v := iv (wr (c3.1.x2 + c85.1))) (aBin_add _ _) ?_
                              refine sim_let (v := AV.ptr o4 1 0 3) rfl ?_
                              refine sim_let (v := iv c3.1.y2) (O96.ld 0 rfl false 1 3) ?_
                              refine sim_let (v := iv (wr (c3.1.y2 + c91.1))) (aBin_add _ _) ?_
                              refine sim_let (v := AV.agg [iv (wr (c3.1.x1 + c85.1)), iv (wr (c3.1.y1 + c91.1)), iv (wr (c3.1.x2 + c85.1)), iv (wr (c3.1.y2 + c91.1))]) (by first | rfl | simp [aBuild, aFill, splice]) ?_
                              refine sim_let (v := AV.ptr o8 1 0 0) rfl ?_
                              refine sim_let (v := iv c3.2.x1) (O96.ld 1 rfl false 1 0) ?_
                              refine sim_let (v := iv (wr (c3.2.x1 + c85.1))) (aBin_add _ _) ?_
                              refine sim_let (v := AV.ptr o8 1 0 1) rfl ?_
                              refine sim_let (v := iv c3.2.y1) (O96.ld 1 rfl false 1 1) ?_
                              refine sim_let (v := iv (wr (c3.2.y1 + c91.1))) (aBin_add _ _) ?_
                              refine sim_let (v := AV.ptr o8 1 0 2) rfl ?_
                              refine sim_let (v := iv c3.2.x2) (O96.ld 1 rfl false 1 2) ?_
                              refine sim_let (v := iv (wr (c3.2.x2 + c85.1))) (aBin_add _ _) ?_
                              refine sim_let (v := AV.ptr o8 1 0 3) rfl ?_
                              refine sim_let (v := iv c3.2.y2) (O96.ld 1 rfl false 1 3) ?_
                              refine sim_let (v := iv (wr (c3.2.y2 + c91.1))) (aBin_add _ _) ?_
                              refine sim_let (v := AV.agg [iv (wr (c3.2.x1 + c85.1)), iv (wr (c3.2.y1 + c91.1)), iv (wr (c3.2.x2 + c85.1)), iv (wr (c3.2.y2 + c91.1))]) (by first | rfl | simp [aBuild, aFill, splice]) ?_
                              refine sim_callV2 he_impl_RelationOf (snapD_nr _ (⟨wr (c3.1.x1 + c85.1), wr (c3.1.y1 + c91.1), wr (c3.1.x2 + c85.1), wr (c3.1.y2 + c91.1)⟩ : Box) rfl) (snapD_nr _ (⟨wr (c3.2.x1 + c85.1), wr (c3.2.y1 + c91.1), wr (c3.2.x2 + c85.1), wr (c3.2.y2 + c91.1)⟩ : Box) rfl) (fun c97 => ?_)
                              refine sim_let (v := iv c97.1) rfl ?_
                              refine sim_let (v := iv c97.2) rfl ?_
                              refine sim_let (v := bv (decide (c97.2 = 0))) (aCmp_eq _ _) ?_
                              refine sim_guardT (e := bv) (fun hb98 => ?_) (fun c99 => ?_)
                              · refine sim_let (v := bv (!decide (c97.1 = c16.1))) (aCmp_ne _ _) ?_
                                exact sim_ret rfl
                              · refine sim_let (v := bv (bif decide (c97.2 = 0) then c99 else false)) (pick_b _ _ _) ?_
                                refine sim_cond (fun c100 => ?_) (fun c100 => ?_)
                                · exact sim_ret (release_plain (by rfl) _)
                                · refine sim_let (v := AV.ptr o8 1 0 1) rfl ?_
                                  refine sim_let (v := iv c3.2.y1) (O96.ld 1 rfl false 1 1) ?_
                                  refine sim_let (v := AV.ptr o8 1 0 3) rfl ?_
                                  refine sim_let (v := iv c3.2.y2) (O96.ld 1 rfl false 1 3) ?_
                                  refine sim_let (v := bv (decide (c3.2.y1 = c3.2.y2))) (aCmp_eq _ _) ?_
                                  refine sim_guardT (e := bv) (fun hb101 => ?_) (fun c102 => ?_)
                                  · refine sim_let (v := AV.ptr o8 1 0 1) rfl ?_
                                    refine sim_let (v := iv c3.2.y1) (O96.ld 1 rfl false 1 1) ?_
                                    refine sim_let (v := iv (wr (2 * c3.2.y1))) (aBin_mul _ _) ?_
                                    refine sim_let (v := AV.ptr o4 1 0 1) rfl ?_
                                    refine sim_let (v := iv c3.1.y1) (O96.ld 0 rfl false 1 1) ?_
                                    refine sim_let (v := AV.ptr o4 1 0 3) rfl ?_
                                    refine sim_let (v := iv c3.1.y2) (O96.ld 0 rfl false 1 3) ?_
                                    refine sim_let (v := iv (wr (c3.1.y1 + c3.1.y2))) (aBin_add _ _) ?_
                                    refine sim_let (v := bv (decide (wr (2 * c3.2.y1) = wr (c3.1.y1 + c3.1.y2)))) (aCmp_eq _ _) ?_
                                    exact sim_ret rfl
                                  · refine sim_let (v := bv (bif decide (c3.2.y1 = c3.2.y2) then c102 else false)) (pick_b _ _ _) ?_
                                    refine sim_guardF (e := bv) (fun hb103 => ?_) (fun c104 => ?_)
                                    · refine sim_let (v := AV.ptr o4 1 0 1) rfl ?_
                                      refine sim_let (v := iv c3.1.y1) (O96.ld 0 rfl false 1 1) ?_
                                      refine sim_let (v := AV.ptr o4 1 0 3) rfl ?_
                                      refine sim_let (v := iv c3.1.y2) (O96.ld 0 rfl false 1 3) ?_
                                      refine sim_let (v := bv (decide (c3.1.y1 = c3.1.y2))) (aCmp_eq _ _) ?_
                                      exact sim_ret rfl
                                    · simp only [gv_FT]
                                      refine sim_guardT (e := bv) (fun hb105 => ?_) (fun c106 => ?_)
                                      · refine sim_let (v := AV.ptr o8 1 0 1) rfl ?_
                                        refine sim_let (v := iv c3.2.y1) (O96.ld 1 rfl false 1 1) ?_
                                        refine sim_let (v := AV.ptr o8 1 0 3) rfl ?_
                                        refine sim_let (v := iv c3.2.y2) (O96.ld 1 rfl false 1 3) ?_
                                        refine sim_let (v := bv (decide (c3.2.y1 = c3.2.y2))) (aCmp_eq _ _) ?_
                                        exact sim_ret rfl
                                      · refine sim_guardF (e := bv) (fun hb107 => ?_) (fun c108 => ?_)
                                        · simp only [hb107, cond_true, cond_false, Bool.not_true, Bool.not_false, Bool.true_and, Bool.and_true, Bool.false_and, Bool.not_not]
                                          refine sim_let (v := bv (bif c104 then c106 else false)) (pick_b _ _ _) ?_
                                          exact sim_ret rfl
                                        · refine sim_let (v := bv (bif (bif decide (c3.2.y1 = c3.2.y2) then c102 else false) then true else c108)) (pick_b' _ _ _) ?_
                                          refine sim_cond (fun c109 => ?_) (fun c109 => ?_)
                                          · exact sim_ret (release_plain (by rfl) _)
                                          · refine sim_let (v := bv (decide (c16.1 = 2))) (aCmp_eq _ _) ?_
                                            refine sim_cond (fun c110 => ?_) (fun c110 => ?_)
                                            · refine sim_let (v := bv (decide (c71.1 = 3))) (aCmp_eq _ _) ?_
                                              exact sim_ret (release_plain (by rfl) _)
                                            · refine sim_let (v := bv (decide (c16.1 = 3))) (aCmp_eq _ _) ?_
                                              refine sim_cond (fun c111 => ?_) (fun c111 => ?_)
                                              · refine sim_let (v := bv (decide (c71.1 = 2))) (aCmp_eq _ _) ?_
                                                exact sim_ret (release_plain (by rfl) _)
                                              · refine sim_let (v := bv (decide (c16.1 = 4))) (aCmp_eq _ _) ?_
                                                refine sim_cond (fun c112 => ?_) (fun c112 => ?_)
                                                · refine sim_let (v := bv (decide (c71.1 = 5))) (aCmp_eq _ _) ?_
                                                  exact sim_ret (release_plain (by rfl) _)
                                                · refine sim_let (v := bv (decide (c16.1 = 5))) (aCmp_eq _ _) ?_
                                                  refine sim_cond (fun c113 => ?_) (fun c113 => ?_)
                                                  · refine sim_let (v := bv (decide (c71.1 = 4))) (aCmp_eq _ _) ?_
                                                    exact sim_ret (release_plain (by rfl) _)
                                                  · refine sim_let (v := bv (decide (c71.1 = c16.1))) (aCmp_eq _ _) ?_
                                                    exact sim_ret (release_plain (by rfl) _)
theorem tt_laws_FnRelations : PureOK Try.prog n_laws_FnRelations (C1 (fun c : Bool => enc c) t_laws_FnRelations) := pureC1 (Econs ok_impl_CommonArea (Econs ok_impl_FlipBox (Econs ok_impl_MiddleOf (Econs ok_impl_RelationOf (Econs tt_laws_f6big (EconsG (gen_of_den eo_laws_f6dice_below mixed hb_laws_f6dice_below) (Econs tt_laws_f6roll (Econs ok_spec_CommonArea (Econs tt_spec_DrawRelationOf (Econs ok_spec_FlipBox (Econs ok_spec_MiddleOf (Econs ok_spec_RelationOf E0)))))))))))) mixed hb_laws_FnRelations fun code_ => ts_laws_FnRelations _ (by simp [envL]) (by simp [envL]) (by simp [envL]) (by simp [envL]) (by simp [envL]) (by simp [envL]) (by simp [envL]) (by simp [envL]) (by simp [envL]) (by simp [envL]) (by simp [envL]) (by simp [envL]) code_

/-- The source has been read up to `k` at most. -/
structure SK (s : l00Src) (k : Int) : Prop where
  lo : 0 ≤ s.pos
  hi : s.pos ≤ k
theorem SK.mono {s : l00Src} {k k' : Int} (h : SK s k) (hk : k ≤ k') : SK s k' := ⟨h.lo, by have := h.hi; omega⟩
theorem and255 (a : Int) : 0 ≤ wr (IntKind.u64.wrap ((BitVec.ofInt 64 a &&& BitVec.ofInt 64 255).toNat : Nat)) ∧ wr (IntKind.u64.wrap ((BitVec.ofInt 64 a &&& BitVec.ofInt 64 255).toNat : Nat)) ≤ 255 := by
  have h1 : (BitVec.ofInt 64 a &&& BitVec.ofInt 64 255).toNat ≤ 255 := by
    rw [BitVec.toNat_and]
    have : (BitVec.ofInt 64 255).toNat = 255 := by decide
    rw [this]
    exact Nat.and_le_right
  generalize (BitVec.ofInt 64 a &&& BitVec.ofInt 64 255).toNat = r at h1
  have h2 : IntKind.u64.wrap (r : Int) = r := by
    simp only [IntKind.wrap, IntKind.bits, IntKind.signed]
    simp only [Bool.false_and, Bool.false_eq_true, if_false]
    omega
  rw [h2, wr_id (by omega) (by omega)]
  omega
theorem andFF (a : Int) : 0 ≤ wr (IntKind.u64.wrap ((BitVec.ofInt 64 a &&& BitVec.ofInt 64 16777215).toNat : Nat)) ∧ wr (IntKind.u64.wrap ((BitVec.ofInt 64 a &&& BitVec.ofInt 64 16777215).toNat : Nat)) ≤ 16777215 := by
  have h1 : (BitVec.ofInt 64 a &&& BitVec.ofInt 64 16777215).toNat ≤ 16777215 := by
    rw [BitVec.toNat_and]
    have : (BitVec.ofInt 64 16777215).toNat = 16777215 := by decide
    rw [this]
    exact Nat.and_le_right
  generalize (BitVec.ofInt 64 a &&& BitVec.ofInt 64 16777215).toNat = r at h1
  have h2 : IntKind.u64.wrap (r : Int) = r := by
    simp only [IntKind.wrap, IntKind.bits, IntKind.signed]
    simp only [Bool.false_and, Bool.false_eq_true, if_false]
    omega
  rw [h2, wr_id (by omega) (by omega)]
  omega
theorem getI_in {A : Type} {l : List A} {i : Int} (h0 : 0 ≤ i) (h1 : i < (l.length : Nat)) : ∃ a, getI l i = some a ∧ l[i.toNat]? = some a := by
  obtain ⟨m, rfl⟩ := Int.eq_ofNat_of_zero_le h0
  have h2 : m < l.length := by omega
  exact ⟨l[m], getI_nat (List.getElem?_eq_getElem h2), by simp [h2]⟩
theorem remI_pos {a b : Int} (ha : 0 ≤ a) (hb : 0 < b) : ∃ r, remI a b = some r ∧ 0 ≤ r ∧ r < b := by
  refine ⟨a.tmod b, ?_, Int.tmod_nonneg b ha, Int.tmod_lt_of_pos a hb⟩
  have : ¬ b = 0 := by omega
  simp [remI, this]
theorem dr_next {s : l00Src} {k : Int} (h : SK s k) (hk : k ≤ 1000000000000) : ∃ r s', t_spec_l00Src_next s = some (r, s') ∧ SK s' (k + 1) ∧ 0 ≤ r ∧ r ≤ 255 := by
  obtain ⟨h1, h2⟩ := h
  have w : wr (s.pos + 1) = s.pos + 1 := wr_id (by omega) (by omega)
  have b1 := fun a => (and255 a).1
  have b2 := fun a => (and255 a).2
  unfold t_spec_l00Src_next
  rw [w]
  by_cases c : s.pos < ((s.code.getD []).length : Nat)
  · obtain ⟨a, ha, _⟩ := getI_in h1 c
    have c2 : s.pos + 1 ≤ ((s.code.getD []).length : Nat) := by omega
    have := a.toNat_lt
    simp only [c, decide_true, cond_true, ha, obind_sm, c2]
    exact ⟨_, _, rfl, ⟨by simp only; omega, by simp only; omega⟩, by omega, by omega⟩
  · have c2 : ¬ s.pos + 1 ≤ ((s.code.getD []).length : Nat) := by omega
    simp only [c, decide_false, cond_false, c2]
    exact ⟨_, _, rfl, ⟨by simp only; omega, by simp only; omega⟩, b1 _, b2 _⟩
theorem dr_pick {s : l00Src} {k : Int} (h : SK s k) (hk : k ≤ 100000000000) {n : Int} (hn : n ≤ 60000) : ∃ r s', t_spec_l00Src_pick s n = some (r, s') ∧ SK s' (k + 2) ∧ 0 ≤ r ∧ (1 ≤ n → r < n) ∧ (n ≤ 1 → r = 0) := by
  unfold t_spec_l00Src_pick
  by_cases c : n ≤ 1
  · simp only [c, decide_true, cond_true]
    exact ⟨0, _, rfl, ⟨h.lo, by have := h.hi; simp only; omega⟩, by omega, fun _ => by omega, fun _ => rfl⟩
  · obtain ⟨r1, s1, e1, k1, p1, q1⟩ := dr_next h (by omega)
    simp only [c, decide_false, cond_false]
    have e1' : t_spec_l00Src_next ⟨s.code, s.pos, s.seed⟩ = some (r1, s1) := e1
    rw [e1', obind_sm]
    by_cases c2 : 200 < n
    · obtain ⟨r2, s2, e2, k2, p2, q2⟩ := dr_next k1 (by omega)
      have e2' : t_spec_l00Src_next ⟨s1.code, s1.pos, s1.seed⟩ = some (r2, s2) := e2
      have w1 : wr (r1 * 256) = r1 * 256 := wr_id (by omega) (by omega)
      have w2 : wr (r1 * 256 + r2) = r1 * 256 + r2 := wr_id (by omega) (by omega)
      obtain ⟨q, e3, p3, q3⟩ := remI_pos (a := r1 * 256 + r2) (b := n) (by omega) (by omega)
      simp only [c2, decide_true, cond_true, e2', obind_sm, w1, w2, e3]
      exact ⟨_, _, rfl, ⟨k2.lo, by have := k2.hi; simp only; omega⟩, p3, fun _ => q3, fun h => False.elim h⟩
    · obtain ⟨q, e3, p3, q3⟩ := remI_pos (a := r1) (b := n) (by omega) (by omega)
      simp only [c2, decide_false, cond_false, e3, obind_sm]
      exact ⟨_, _, rfl, ⟨k1.lo, by have := k1.hi; simp only; omega⟩, p3, fun _ => q3, fun h => False.elim h⟩
theorem dr_one {s : l00Src} {k : Int} (h : SK s k) (hk : k ≤ 100000000000) {n : Int} (hn : n ≤ 60000) : ∃ b s', t_spec_l00Src_one s n = some (b, s') ∧ SK s' (k + 2) := by
  obtain ⟨r, s', e, k', _⟩ := dr_pick h hk hn
  have e' : t_spec_l00Src_pick ⟨s.code, s.pos, s.seed⟩ n = some (r, s') := e
  unfold t_spec_l00Src_one
  simp only [e', obind_sm]
  exact ⟨_, _, rfl, k'⟩
theorem dr_among {s : l00Src} {k : Int} (h : SK s k) (hk : k ≤ 100000000000) {l : List Int} (h0 : l ≠ []) (hl : l.length ≤ 60000) : ∃ r s', t_spec_l00Src_among s (some l) = some (r, s') ∧ SK s' (k + 2) ∧ r ∈ l := by
  have hp : 0 < l.length := List.length_pos_iff.2 h0
  obtain ⟨r, s', e, k', p, q, _⟩ := dr_pick h hk (n := (l.length : Nat)) (by omega)
  have e' : t_spec_l00Src_pick ⟨s.code, s.pos, s.seed⟩ (l.length : Nat) = some (r, s') := e
  obtain ⟨a, ha, ha2⟩ := getI_in (l := l) p (q (by omega))
  unfold t_spec_l00Src_among
  simp only [Option.getD_some, e', obind_sm, ha]
  exact ⟨_, _, rfl, k', List.mem_of_getElem? ha2⟩

theorem dr_box {s : l00Src} {k : Int} (h : SK s k) (hk : k ≤ 10000000000) : ∃ b s', t_spec_l02DrawBox s = some (b, s') ∧ SK s' (k + 20) := by
  obtain ⟨r1, s1, e1, k1, _⟩ := dr_pick h (by omega) (n := 900) (by omega)
  obtain ⟨r2, s2, e2, k2, _⟩ := dr_pick k1 (by omega) (n := 900) (by omega)
  obtain ⟨r3, s3, e3, k3, _⟩ := dr_pick k2 (by omega) (n := 300) (by omega)
  obtain ⟨r4, s4, e4, k4, _⟩ := dr_pick k3 (by omega) (n := 300) (by omega)
  obtain ⟨r5, s5, e5, k5, _⟩ := dr_pick k4 (by omega) (n := 16) (by omega)
  unfold t_spec_l02DrawBox
  simp only [e1, e2, e3, e4, e5, obind_sm]
  by_cases c1 : r5 = 0
  · obtain ⟨r6, s6, e6, k6, _⟩ := dr_among k5 (by omega) (l := [(-1), wr (r1 + r3), wr ((wr (r1 + r3)) + 1)]) (by simp) (by simp)
    simp only [c1, decide_true, cond_true, e6, obind_sm]
    exact ⟨_, _, rfl, k6.mono (by omega)⟩
  · by_cases c2 : r5 = 1
    · obtain ⟨r6, s6, e6, k6, _⟩ := dr_among k5 (by omega) (l := [4095, 4096, (-1)]) (by simp) (by simp)
      simp only [c1, c2, decide_false, decide_true, cond_true, cond_false, e6, obind_sm]
      exact ⟨_, _, rfl, k6.mono (by omega)⟩
    · simp only [c1, c2, decide_false, cond_false]
      exact ⟨_, _, rfl, k5.mono (by omega)⟩
theorem dr_near {s : l00Src} {k : Int} (h : SK s k) (hk : k ≤ 10000000000) (a : Box) : ∃ b s', t_spec_l20Near s a = some (b, s') ∧ SK s' (k + 20) := by
  obtain ⟨r1, s1, e1, k1, _⟩ := dr_pick h (by omega) (n := 90) (by omega)
  obtain ⟨r2, s2, e2, k2, _⟩ := dr_pick k1 (by omega) (n := 90) (by omega)
  obtain ⟨r3, s3, e3, k3, _⟩ := dr_pick k2 (by omega) (n := 50) (by omega)
  obtain ⟨r4, s4, e4, k4, _⟩ := dr_pick k3 (by omega) (n := 50) (by omega)
  unfold t_spec_l20Near
  simp only [e1, e2, e3, e4, obind_sm]
  exact ⟨_, _, rfl, k4.mono (by omega)⟩
theorem dr_two {s : l00Src} {k : Int} (h : SK s k) (hk : k ≤ 1000000000) : ∃ a b s', t_spec_l20Two s = some (a, b, s') ∧ SK s' (k + 100) := by
  obtain ⟨a, s1, e1, k1⟩ := dr_box h (by omega)
  obtain ⟨r2, s2, e2, k2⟩ := dr_one k1 (by omega) (n := 4) (by omega)
  unfold t_spec_l20Two
  simp only [e1, e2, obind_sm]
  cases r2 with
  | true =>
    obtain ⟨b, s3, e3, k3⟩ := dr_box k2 (by omega)
    simp only [cond_true, e3, obind_sm]
    exact ⟨_, _, _, rfl, k3.mono (by omega)⟩
  | false =>
    simp only [cond_false]
    cases validBox a with
    | false =>
      simp only [Bool.not_false, cond_true]
      exact ⟨_, _, _, rfl, k2.mono (by omega)⟩
    | true =>
      obtain ⟨r3, s3, e3, k3⟩ := dr_one k2 (by omega) (n := 6) (by omega)
      simp only [Bool.not_true, cond_false, e3, obind_sm]
      cases r3 with
      | true =>
        simp only [cond_true]
        exact ⟨_, _, _, rfl, k3.mono (by omega)⟩
      | false =>
        obtain ⟨b, s4, e4, k4⟩ := dr_near k3 (by omega) a
        simp only [cond_false, e4, obind_sm]
        exact ⟨_, _, _, rfl, k4.mono (by omega)⟩
theorem dr_relation (code : Sl UInt8) : ∃ a b, t_spec_DrawRelationOf code = some (a, b) := by
  obtain ⟨a, b, s', e, _⟩ := dr_two (s := ⟨code, 0, 0⟩) (k := 0) ⟨by simp, by simp⟩ (by omega)
  unfold t_spec_DrawRelationOf
  simp only [e, obind_sm]
  exact ⟨_, _, rfl⟩

theorem roll_ex (code : Sl UInt8) (hc : (code.getD []).length ≤ 4096) (seed : Wd) : ∃ d, t_laws_f6roll code seed = some d ∧ d.b = code ∧ d.i = 0 := by
  unfold t_laws_f6roll
  obtain ⟨⟨q1, q2, q3⟩, h1, h2, h3⟩ := loopT_ex (step := s0_laws_f6roll code) (fun k (s : (Sl UInt8) × Int × Int × Int) => s.1 = code ∧ s.2.1 = 0 ∧ s.2.2.2 = (k : Int)) (code.getD []).length (fun r => r.1 = code ∧ r.2.1 = 0)
    (fun k ⟨c, i, h, n⟩ hk ⟨e1, e2, e3⟩ => by
      simp only at e1 e2 e3
      subst e1 e2 e3
      obtain ⟨a, ha, _⟩ := getI_in (l := c.getD []) (i := (k : Int)) (by omega) (by omega)
      have w : wr ((k : Int) + 1) = ((k + 1 : Nat) : Int) := by rw [wr_id (by omega) (by omega)]; omega
      have c1 : (k : Int) < ((c.getD []).length : Nat) := by omega
      have e : s0_laws_f6roll c (c, 0, h, (k : Int)) = some (.inl (c, 0, IntKind.u64.wrap ((IntKind.u64.wrap ((IntKind.u64.wrap (h * 1099511628211)) + (a.toNat : Int))) + 3), ((k + 1 : Nat) : Int))) := by
        unfold s0_laws_f6roll
        simp only [c1, decide_true, cond_true, ha, obind_sm, w]
      exact .inl ⟨_, e, rfl, rfl, rfl⟩)
    (fun ⟨c, i, h, n⟩ ⟨e1, e2, e3⟩ => by
      simp only at e1 e2 e3
      subst e1 e2 e3
      have e : s0_laws_f6roll c (c, 0, h, (((c.getD []).length : Nat) : Int)) = some (.inr (c, 0, h)) := by
        unfold s0_laws_f6roll
        simp only [Int.lt_irrefl, decide_false, cond_false]
      exact ⟨_, e, rfl, rfl⟩)
    (s := (code, 0, IntKind.u64.wrap ((IntKind.u64.wrap (seed.v * 7919)) + (IntKind.u64.wrap (((code.getD []).length : Nat) : Int))), 0)) ⟨rfl, rfl, rfl⟩
  rw [h1]
  exact ⟨_, rfl, h2, h3⟩
theorem below_ex (d : f6dice) (h0 : 0 ≤ d.i) (h1 : d.i ≤ 1000000) {n : Int} (hn : 0 < n) (hn2 : n ≤ 1000000) : ∃ r d', t_laws_f6dice_below d n = some (r, d') ∧ d'.b = d.b ∧ 0 ≤ d'.i ∧ d'.i ≤ d.i + 1 ∧ 0 ≤ r ∧ r < n := by
  have b1 := fun a => (andFF a).1
  have b2 := fun a => (andFF a).2
  have w : wr (d.i + 1) = d.i + 1 := wr_id (by omega) (by omega)
  unfold t_laws_f6dice_below
  rw [w]
  by_cases c : d.i < ((d.b.getD []).length : Nat)
  · obtain ⟨a, ha, _⟩ := getI_in h0 c
    have p1 := b1 (Int.fdiv (IntKind.u64.wrap ((IntKind.u64.wrap (d.h * 6364136223846793005)) + 1442695040888963407)) (2 ^ 33))
    have p2 := b2 (Int.fdiv (IntKind.u64.wrap ((IntKind.u64.wrap (d.h * 6364136223846793005)) + 1442695040888963407)) (2 ^ 33))
    have := a.toNat_lt
    simp only [c, decide_true, cond_true, ha, obind_sm]
    generalize wr (IntKind.u64.wrap ((BitVec.ofInt 64 (Int.fdiv (IntKind.u64.wrap ((IntKind.u64.wrap (d.h * 6364136223846793005)) + 1442695040888963407)) (2 ^ 33)) &&& BitVec.ofInt 64 16777215).toNat : Nat)) = x at p1 p2 ⊢
    have w2 : wr (x + (a.toNat : Int)) = x + (a.toNat : Int) := wr_id (by omega) (by omega)
    obtain ⟨q, e3, p3, q3⟩ := remI_pos (a := x + (a.toNat : Int)) (b := n) (by omega) hn
    rw [w2, e3]
    exact ⟨_, _, rfl, rfl, by simp only; omega, by simp only; omega, p3, q3⟩
  · obtain ⟨q, e3, p3, q3⟩ := remI_pos (b1 (Int.fdiv (IntKind.u64.wrap ((IntKind.u64.wrap (d.h * 6364136223846793005)) + 1442695040888963407)) (2 ^ 33))) hn
    simp only [c, decide_false, cond_false, e3, obind_sm]
    exact ⟨_, _, rfl, rfl, h0, by simp only; omega, p3, q3⟩

theorem relZ_range (a b : Box) : relZ a b = 0 ∨ relZ a b = 1 ∨ relZ a b = 2 ∨ relZ a b = 3 ∨ relZ a b = 4 ∨ relZ a b = 5 ∨ relZ a b = 6 := by
  unfold relZ
  split
  · simp
  · split
    · split
      · simp
      · split <;> simp
    · split
      · simp
      · split <;> simp
theorem true_FnRelations (code : Sl UInt8) : t_laws_FnRelations code = some true := by
  unfold t_laws_FnRelations
  simp only [t_laws_f6big, obind_sm]
  by_cases hbig : 4096 < (((code.getD []).length : Nat) : Int)
  · simp only [hbig, decide_true, cond_true]
  obtain ⟨a, b, e⟩ := dr_relation code
  simp only [hbig, decide_false, cond_false, e, obind_sm, decide_true, Bool.not_true]
  cases hva : validBox a with
  | false => simp [relationOf, hva]
  | true =>
  cases hvb : validBox b with
  | false => simp [relationOf, hva, hvb]
  | true =>
  have ra := box_range hva
  have rb := box_range hvb
  have f1 := flipBox_flipB hva
  have f2 := flipBox_flipB hvb
  have v1 := valid_flipB hva
  have v2 := valid_flipB hvb
  obtain ⟨d, ed, d1, d2⟩ := roll_ex code (by omega) ⟨2001⟩
  obtain ⟨dx, d', ex, g1, g2, g3, g4, g5⟩ := below_ex d (by omega) (by omega) (n := 100) (by omega) (by omega)
  obtain ⟨dy, d'', ey, k1, k2, k3, k4, k5⟩ := below_ex d' (by omega) (by omega) (n := 100) (by omega) (by omega)
  have w1 : wr (a.x1 + dx) = a.x1 + dx := wr_id (by omega) (by omega)
  have w2 : wr (a.y1 + dy) = a.y1 + dy := wr_id (by omega) (by omega)
  have w3 : wr (a.x2 + dx) = a.x2 + dx := wr_id (by omega) (by omega)
  have w4 : wr (a.y2 + dy) = a.y2 + dy := wr_id (by omega) (by omega)
  have w5 : wr (b.x1 + dx) = b.x1 + dx := wr_id (by omega) (by omega)
  have w6 : wr (b.y1 + dy) = b.y1 + dy := wr_id (by omega) (by omega)
  have w7 : wr (b.x2 + dx) = b.x2 + dx := wr_id (by omega) (by omega)
  have w8 : wr (b.y2 + dy) = b.y2 + dy := wr_id (by omega) (by omega)
  have w9 : wr (2 * b.y1) = 2 * b.y1 := wr_id (by omega) (by omega)
  have w10 : wr (a.y1 + a.y2) = a.y1 + a.y2 := wr_id (by omega) (by omega)
  have r1 : relationOf a b = (relZ a b, 0) := by simp [relationOf, hva, hvb, relation_relZ]
  have r2 : relationOf (flipB a) (flipB b) = (relZ (flipB a) (flipB b), 0) := by simp [relationOf, v1, v2, relation_relZ]
  have r3 : (commonArea b a).2 = 0 := by simp [commonArea, hva, hvb]
  have r4 : commonArea b a = commonArea a b := area_comm a b
  have r5 : (relationOf (moveB a dx dy) (moveB b dx dy)).2 = 0 → (relationOf (moveB a dx dy) (moveB b dx dy)).1 = relZ a b := by
    intro h
    cases m1 : validBox (moveB a dx dy) with
    | false => simp [relationOf, m1] at h
    | true =>
    cases m2 : validBox (moveB b dx dy) with
    | false => simp [relationOf, m1, m2] at h
    | true => simp [relationOf, m1, m2, relation_relZ, relZ_move]
  rw [r4] at r3
  have r6 : (⟨a.x1 + dx, a.y1 + dy, a.x2 + dx, a.y2 + dy⟩ : Box) = moveB a dx dy := rfl
  have r7 : (⟨b.x1 + dx, b.y1 + dy, b.x2 + dx, b.y2 + dy⟩ : Box) = moveB b dx dy := rfl
  simp only [f1, f2, r1, r2, r4, r3, ed, ex, ey, obind_sm, decide_true, Bool.not_true, cond_false, cond_true, w1, w2, w3, w4, w5, w6, w7, w8, w9, w10, r6, r7, cond_some]
  have fin : ∀ (X : Option Bool), X = (bif (decide (b.y1 = b.y2) && decide (2 * b.y1 = a.y1 + a.y2)) || (decide (a.y1 = a.y2) && decide (b.y1 = b.y2)) then some true else some (decide (relZ (flipB a) (flipB b) = swapR (relZ a b)))) → X = some true := by
    intro X hX
    rw [hX]
    by_cases hd : (b.y1 = b.y2 ∧ 2 * b.y1 = a.y1 + a.y2) ∨ (a.y1 = a.y2 ∧ b.y1 = b.y2)
    · have : ((decide (b.y1 = b.y2) && decide (2 * b.y1 = a.y1 + a.y2)) || (decide (a.y1 = a.y2) && decide (b.y1 = b.y2))) = true := by
        simp only [Bool.or_eq_true, Bool.and_eq_true, decide_eq_true_eq]
        exact hd
      rw [this]
      rfl
    · rw [relZ_flip hva hvb hd]
      simp
  apply fin
  have hm : ∀ (c : Bool) (x : Int × Int), (x.2 = 0 → x.1 = relZ a b) → (bif (bif decide (x.2 = 0) then !decide (x.1 = relZ a b) else false) then (some false : Option Bool) else some c) = some c := by
    intro c x hx
    by_cases m : x.2 = 0
    · simp [m, hx m]
    · simp [m]
  have hz := relZ_range a b
  generalize relZ (flipB a) (flipB b) = z2
  generalize decide (b.y1 = b.y2) = c1
  generalize decide (2 * b.y1 = a.y1 + a.y2) = c2
  generalize decide (a.y1 = a.y2) = c3
  by_cases m : (relationOf (moveB a dx dy) (moveB b dx dy)).2 = 0
  · simp only [m, r5 m, decide_true, cond_true, Bool.not_true, obind_sm, cond_false]
    generalize relZ a b = z at hz
    cases c1 <;> cases c2 <;> cases c3 <;> rcases hz with rfl | rfl | rfl | rfl | rfl | rfl | rfl <;> simp [swapR]
  · simp only [m, decide_false, cond_false, obind_sm]
    generalize relZ a b = z at hz
    cases c1 <;> cases c2 <;> cases c3 <;> rcases hz with rfl | rfl | rfl | rfl | rfl | rfl | rfl <;> simp [swapR]

theorem ok_laws_FnRelations : PureOK Try.prog n_laws_FnRelations (G1 (fun a : Sl UInt8 => Wt.big a) fun _ => bv true) := lawC1 tt_laws_FnRelations fun a _ => true_FnRelations a
theorem law_FnRelations (a : Sl UInt8) (ha : Row.fine a) : G1 (fun a : Sl UInt8 => Wt.big a) (fun _ => bv true) [enc a] = some (bv true) := G1_enc _ _ a (by simp [Wt.fb a ha])

theorem isC_5 {cs : List AV} (h : IsC Try.prog 5 cs) : ∃ x : UInt8, cs = Row.cells x ∧ Row.fine x := by
  obtain ⟨n, rfl, hn⟩ := IsC.intE Try.underlying5 h
  exact byte_of hn
theorem isC_22 {cs : List AV} (h : IsC Try.prog 22 cs) : ∃ x : (Sl UInt8), cs = Row.cells x ∧ Row.fine x := by
  rcases IsC.sliceE Try.underlying22 h with rfl | ⟨rows, rfl, h1, h2⟩
  · exact ⟨none, rfl, Sl.fineNil⟩
  · exact Sl.isC (by kernel_rfl) h1 fun row hr => isC_5 (h2 row hr)
theorem own : ownKnob Try.prog.godebug = none := by kernel_rfl
theorem laidOut : laidOutB Try.prog = true := by kernel_rfl

set_option maxRecDepth 100000 in
theorem holds : Rows.FnRelationsSaid :=
  OpenClaim.holds_of_wide 4 Try.f4 rfl rfl rfl rfl rfl rfl rfl ⟨rfl, rfl, rfl, rfl, rfl⟩ rfl rfl rfl rfl rfl (by kernel_rfl) Try.func4 (by kernel_rfl)
    (of_decide_eq_true (by kernel_rfl)) (by unfold Func.isWrapper; rw [if_neg (by decide +kernel)]; exact ⟨rfl, rfl⟩)
    (fun os started H enc _ => law_lifted (C := Try.checked) (s := Rows.fnRelationsSpec) own started (by kernel_rfl) Try.func4
      (ChangeSpec.witness6 (enc := enc) (C := Try.checked) false ⟨#[], #[.slice none 0 0], []⟩ 8 (by kernel_rfl) (by kernel_rfl) (by kernel_rfl) (by kernel_rfl))
      laidOut rfl (tb := 4) rfl Try.underlying4 (ts := [22, 5]) (by kernel_rfl)
      (fun ds h => by match ds, h with | [d0], _ => rfl)
      hb_laws_FnRelations ok_laws_FnRelations (by
    intro l h
    obtain ⟨a0, l0, rfl, g0, k0⟩ := h
    cases k0
    obtain ⟨b0, e0, w0⟩ := isC_22 (isV_one (by kernel_rfl) g0)
    obtain rfl := one_enc e0
    exact law_FnRelations b0 w0))
#print axioms holds
end Go.Proofs.Ytdfdmelcnjggfab
